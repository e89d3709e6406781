
/- The harness's functions on Log and []Log: size, copy, equality. Printed by genshape.py. -/
import Derived.Test.YtbonebpheimbaaaGreatDoorLg3
import Derived.Test.YtbonebpheimbaaaGreatDoorShape
import Derived.Deep.RegionHeld3
import Derived.Deep.DeepCutAuto
import Derived.Test.YtbonebpheimbaaaGreatDoorHLab
namespace Go.Proofs.YtbonebpheimbaaaGreatDoor
open Go.RowKit

abbrev LogM : Type := (ByteArray × ByteArray × Int)
def shLog : Sh LogM := (Sh.pair Sh.str (Sh.pair Sh.str Sh.int))
theorem rdLog {w : World} {cs : List Value} {x : LogM} (h : shLog.rd w cs x) : cs = [.string x.1, .string x.2.1, .int .i64 x.2.2] ∧ x.1.size ≤ maxLen ∧ x.2.1.size ≤ maxLen ∧ InR x.2.2 := by
  obtain ⟨_, _, rfl, ⟨_, rfl, rfl, hsDurable⟩, ⟨_, _, rfl, ⟨_, rfl, rfl, hsPending⟩, ⟨_, rfl, rfl, loCount, hiCount⟩⟩⟩ := h
  exact ⟨rfl, hsDurable, hsPending, ⟨loCount, hiCount⟩⟩
theorem mkLog {w : World} {x : LogM} (hDurable : x.1.size ≤ maxLen) (hPending : x.2.1.size ≤ maxLen) (hCount : InR x.2.2) : shLog.rd w [.string x.1, .string x.2.1, .int .i64 x.2.2] x :=
  ⟨[.string x.1], [.string x.2.1, .int .i64 x.2.2], rfl, ⟨_, rfl, rfl, hDurable⟩, ⟨[.string x.2.1], [.int .i64 x.2.2], rfl, ⟨_, rfl, rfl, hPending⟩, ⟨_, rfl, rfl, hCount.1, hCount.2⟩⟩⟩
set_option linter.unusedVariables false in
set_option maxHeartbeats 2000000 in
theorem szLog_any (cs : List Value) (x : LogM) (left : Int) (w : World) (h : shLog.rd w cs x) (h0 : 0 ≤ left) (h1 : left ≤ 1048576) :
    Calls Tryz.prog 13 #[.agg cs.toArray, .int .i64 left] w (Bl w (.int .i64 (szR (shLog.cnt x) left))) := by
  obtain ⟨rfl, qDurable, qPending, qCount⟩ := rdLog h
  obtain ⟨w0, hw0, T0, hsz0, BP⟩ := boxes1 w #[.string x.1, .string x.2.1, .int .i64 x.2.2] 29
  unfold maxLen at qDurable
  unfold maxLen at qPending
  have HC0 : Hid (szR 0 left = left) := szR_zero h0
  have HCN : Hid (shLog.cnt x = (x.1.size + (x.2.1.size + 0))) := rfl
  
  go_enter Tryz.func13, Tryz.ntmps13
  have cP := BP.cell 0
  simp at cP
  rw [hw0] at cP
  by_cases z0 : left - (x.1.size : Int) < 0
  · have HZ := Lib.hid (szR_lt (s := x.1.size) HC0.out (by omega) z0 (c := shLog.cnt x) (by rw [HCN.out]; omega) h0)
    go_wp2_with fail
    go_ret
    exact ⟨ret_int HZ.out, by first | exact T0 | (rw [← hw0]; exact T0)⟩
  have HC1 : Hid (szR (0 + x.1.size) left = left - (x.1.size : Int)) := szR_ge HC0.out (by omega) z0
  have cP := BP.cell 1
  simp at cP
  rw [hw0] at cP
  by_cases z1 : (left - (x.1.size : Int)) - (x.2.1.size : Int) < 0
  · have HZ := Lib.hid (szR_lt (s := x.2.1.size) HC1.out (by omega) z1 (c := shLog.cnt x) (by rw [HCN.out]; omega) h0)
    go_wp2_with fail
    go_ret
    exact ⟨ret_int HZ.out, by first | exact T0 | (rw [← hw0]; exact T0)⟩
  have HC2 : Hid (szR ((0 + x.1.size) + x.2.1.size) left = (left - (x.1.size : Int)) - (x.2.1.size : Int)) := szR_ge HC1.out (by omega) z1
  go_wp2_with fail
  go_ret
  exact ⟨ret_int (by simp only [HCN.out, ← HC2.out]; first | done | (congr 1; omega)), by rw [← hw0]; exact T0⟩
set_option linter.unusedVariables false in
theorem toLog_any (cs : List Value) (x : LogM) (w : World) (h : shLog.rd w cs x) (hn : shLog.cnt x ≤ 1048576) :
    Calls Tryz.prog 16 #[.agg cs.toArray] w (ToE shLog w x) := by
  obtain ⟨rfl, q1, q2, q3⟩ := rdLog h
  refine (Lg.toLog_any x.1 x.2.1 x.2.2 w).mono ?_
  rintro e w' ⟨rfl, hb⟩
  exact ⟨[.string x.1, .string x.2.1, .int .i64 x.2.2], [], rfl, ⟨[.string x.1], [.string x.2.1, .int .i64 x.2.2], [], [], rfl, rfl, ⟨_, rfl, ⟨rfl, q1⟩, rfl⟩, ⟨[.string x.2.1], [.int .i64 x.2.2], [], [], rfl, rfl, ⟨_, rfl, ⟨rfl, q2⟩, rfl⟩, ⟨_, rfl, ⟨rfl, q3.1, q3.2⟩, rfl⟩⟩⟩, Iv.nil _ _, hb⟩
theorem eqPLog (x y : LogM) : eqC x y = (eqC (x.1) (y.1) && (eqC (x.2.1) (y.2.1) && eqC (x.2.2) (y.2.2))) := by
  obtain ⟨x0, x1, x2⟩ := x
  obtain ⟨y0, y1, y2⟩ := y
  simp only [dec_pair]
set_option linter.unusedVariables false in
set_option maxHeartbeats 4000000 in
theorem eqLog_any (cs ds : List Value) (x y : LogM) (w : World) (h : shLog.rd w cs x) (h' : shLog.rd w ds y) :
    Calls Tryz.prog 20 #[.agg cs.toArray, .agg ds.toArray] w (Bl w (.bool (eqC x y))) := by
  obtain ⟨rfl, qDurable, qPending, qCount⟩ := rdLog h
  obtain ⟨rfl, qyDurable, qyPending, qyCount⟩ := rdLog h'
  obtain ⟨w0, hw0, T0, hsz0, BP, BQ⟩ := boxes2 w #[.string x.1, .string x.2.1, .int .i64 x.2.2] #[.string y.1, .string y.2.1, .int .i64 y.2.2] 40 40
  have HD := Lib.hid (eqPLog x y)
  go_enter Tryz.func20, Tryz.ntmps20
  rcases hd0 : eqC (x.1) (y.1) with _ | _
  · have ht : (x.1.toList == y.1.toList) = false := eqq_str hd0
    have HH0 := Lib.hid hd0
    clear hd0
    have cP0 := BP.cell 0
    have cQ0 := BQ.cell 0
    simp at cP0 cQ0
    rw [hw0] at cP0 cQ0
    go_wp2_with fail
    go_ret
    exact ⟨ret_bool (by rw [HD.out, HH0.out]; first | rfl | simp), by first | exact T0 | (rw [← hw0]; exact T0)⟩
  have ht0 : (x.1.toList == y.1.toList) = true := eqq_str hd0
  have HH0 := Lib.hid hd0
  clear hd0
  have cP0 := BP.cell 0
  have cQ0 := BQ.cell 0
  simp at cP0 cQ0
  rw [hw0] at cP0 cQ0
  rcases hd1 : eqC (x.2.1) (y.2.1) with _ | _
  · have ht : (x.2.1.toList == y.2.1.toList) = false := eqq_str hd1
    have HH1 := Lib.hid hd1
    clear hd1
    have cP1 := BP.cell 1
    have cQ1 := BQ.cell 1
    simp at cP1 cQ1
    rw [hw0] at cP1 cQ1
    go_wp2_with fail
    go_ret
    exact ⟨ret_bool (by rw [HD.out, HH0.out, HH1.out]; first | rfl | simp), by first | exact T0 | (rw [← hw0]; exact T0)⟩
  have ht1 : (x.2.1.toList == y.2.1.toList) = true := eqq_str hd1
  have HH1 := Lib.hid hd1
  clear hd1
  have cP1 := BP.cell 1
  have cQ1 := BQ.cell 1
  simp at cP1 cQ1
  rw [hw0] at cP1 cQ1
  rcases hd2 : eqC (x.2.2) (y.2.2) with _ | _
  · have ht : (x.2.2 != y.2.2) = true := neq_int hd2
    have HH2 := Lib.hid hd2
    clear hd2
    have cP2 := BP.cell 2
    have cQ2 := BQ.cell 2
    simp at cP2 cQ2
    rw [hw0] at cP2 cQ2
    go_wp2_with fail
    go_ret
    exact ⟨ret_bool (by rw [HD.out, HH0.out, HH1.out, HH2.out]; first | rfl | simp), by first | exact T0 | (rw [← hw0]; exact T0)⟩
  have ht2 : (x.2.2 != y.2.2) = false := neq_int hd2
  have HH2 := Lib.hid hd2
  clear hd2
  have cP2 := BP.cell 2
  have cQ2 := BQ.cell 2
  simp at cP2 cQ2
  rw [hw0] at cP2 cQ2
  go_wp2_with fail
  go_ret
  exact ⟨ret_bool (by rw [HD.out, HH0.out, HH1.out, HH2.out]; first | rfl | simp), by rw [← hw0]; exact T0⟩
end Go.Proofs.YtbonebpheimbaaaGreatDoor
namespace Go.Proofs.YtbonebpheimbaaaGreatDoor
open Go.RowKit

abbrev ConsoleM : Type := (LabM × LogM)
def shConsole : Sh ConsoleM := (Sh.pair shLab shLog)
theorem rdConsole {w : World} {cs : List Value} {x : ConsoleM} (h : shConsole.rd w cs x) : ∃ (ALabBaseOps : Option Addr) (nLabBaseOps cLabBaseOps : Nat) (ALabFacts : Option Addr) (nLabFacts cLabFacts : Nat), cs = [.bool x.1.1, .int .i64 x.1.2.1.1, .slice ALabBaseOps nLabBaseOps cLabBaseOps, .slice ALabFacts nLabFacts cLabFacts, .int .i64 x.1.2.2.2, .string x.2.1, .string x.2.2.1, .int .i64 x.2.2.2] ∧ InR x.1.2.1.1 ∧ RdN shOp.m shOp.rd w ALabBaseOps nLabBaseOps x.1.2.1.2 ∧ RdN shFact.m shFact.rd w ALabFacts nLabFacts x.1.2.2.1 ∧ InR x.1.2.2.2 ∧ x.2.1.size ≤ maxLen ∧ x.2.2.1.size ≤ maxLen ∧ InR x.2.2.2 := by
  obtain ⟨_, _, rfl, ⟨_, _, rfl, ⟨_, rfl, rfl⟩, ⟨_, _, rfl, ⟨_, _, rfl, ⟨_, rfl, rfl, loLabBaseSize, hiLabBaseSize⟩, ⟨ALabBaseOps, nLabBaseOps, cLabBaseOps, rfl, rLabBaseOps⟩⟩, ⟨_, _, rfl, ⟨ALabFacts, nLabFacts, cLabFacts, rfl, rLabFacts⟩, ⟨_, rfl, rfl, loLabRefused, hiLabRefused⟩⟩⟩⟩, ⟨_, _, rfl, ⟨_, rfl, rfl, hsLogDurable⟩, ⟨_, _, rfl, ⟨_, rfl, rfl, hsLogPending⟩, ⟨_, rfl, rfl, loLogCount, hiLogCount⟩⟩⟩⟩ := h
  exact ⟨ALabBaseOps, nLabBaseOps, cLabBaseOps, ALabFacts, nLabFacts, cLabFacts, rfl, ⟨loLabBaseSize, hiLabBaseSize⟩, rLabBaseOps, rLabFacts, ⟨loLabRefused, hiLabRefused⟩, hsLogDurable, hsLogPending, ⟨loLogCount, hiLogCount⟩⟩
theorem mkConsole {w : World} {x : ConsoleM} {ALabBaseOps ALabFacts : Option Addr} {nLabBaseOps cLabBaseOps nLabFacts cLabFacts : Nat} (hLabBaseSize : InR x.1.2.1.1) (hLabBaseOps : RdN shOp.m shOp.rd w ALabBaseOps nLabBaseOps x.1.2.1.2) (hLabFacts : RdN shFact.m shFact.rd w ALabFacts nLabFacts x.1.2.2.1) (hLabRefused : InR x.1.2.2.2) (hLogDurable : x.2.1.size ≤ maxLen) (hLogPending : x.2.2.1.size ≤ maxLen) (hLogCount : InR x.2.2.2) : shConsole.rd w [.bool x.1.1, .int .i64 x.1.2.1.1, .slice ALabBaseOps nLabBaseOps cLabBaseOps, .slice ALabFacts nLabFacts cLabFacts, .int .i64 x.1.2.2.2, .string x.2.1, .string x.2.2.1, .int .i64 x.2.2.2] x :=
  ⟨[.bool x.1.1, .int .i64 x.1.2.1.1, .slice ALabBaseOps nLabBaseOps cLabBaseOps, .slice ALabFacts nLabFacts cLabFacts, .int .i64 x.1.2.2.2], [.string x.2.1, .string x.2.2.1, .int .i64 x.2.2.2], rfl, ⟨[.bool x.1.1], [.int .i64 x.1.2.1.1, .slice ALabBaseOps nLabBaseOps cLabBaseOps, .slice ALabFacts nLabFacts cLabFacts, .int .i64 x.1.2.2.2], rfl, ⟨_, rfl, rfl⟩, ⟨[.int .i64 x.1.2.1.1, .slice ALabBaseOps nLabBaseOps cLabBaseOps], [.slice ALabFacts nLabFacts cLabFacts, .int .i64 x.1.2.2.2], rfl, ⟨[.int .i64 x.1.2.1.1], [.slice ALabBaseOps nLabBaseOps cLabBaseOps], rfl, ⟨_, rfl, rfl, hLabBaseSize.1, hLabBaseSize.2⟩, ⟨_, _, _, rfl, hLabBaseOps⟩⟩, ⟨[.slice ALabFacts nLabFacts cLabFacts], [.int .i64 x.1.2.2.2], rfl, ⟨_, _, _, rfl, hLabFacts⟩, ⟨_, rfl, rfl, hLabRefused.1, hLabRefused.2⟩⟩⟩⟩, ⟨[.string x.2.1], [.string x.2.2.1, .int .i64 x.2.2.2], rfl, ⟨_, rfl, rfl, hLogDurable⟩, ⟨[.string x.2.2.1], [.int .i64 x.2.2.2], rfl, ⟨_, rfl, rfl, hLogPending⟩, ⟨_, rfl, rfl, hLogCount.1, hLogCount.2⟩⟩⟩⟩
set_option linter.unusedVariables false in
set_option maxHeartbeats 2000000 in
theorem szConsole_any (cs : List Value) (x : ConsoleM) (left : Int) (w : World) (h : shConsole.rd w cs x) (h0 : 0 ≤ left) (h1 : left ≤ 1048576) :
    Calls Tryz.prog 5 #[.agg cs.toArray, .int .i64 left] w (Bl w (.int .i64 (szR (shConsole.cnt x) left))) := by
  obtain ⟨ALabBaseOps, nLabBaseOps, cLabBaseOps, ALabFacts, nLabFacts, cLabFacts, rfl, qLabBaseSize, qLabBaseOps, qLabFacts, qLabRefused, qLogDurable, qLogPending, qLogCount⟩ := rdConsole h
  obtain ⟨w0, hw0, T0, hsz0, BP⟩ := boxes1 w #[.bool x.1.1, .int .i64 x.1.2.1.1, .slice ALabBaseOps nLabBaseOps cLabBaseOps, .slice ALabFacts nLabFacts cLabFacts, .int .i64 x.1.2.2.2, .string x.2.1, .string x.2.2.1, .int .i64 x.2.2.2] 31
  have lLabBaseOps := qLabBaseOps.le
  have lLabFacts := qLabFacts.le
  unfold maxLen at qLogDurable
  unfold maxLen at qLogPending
  have HC0 : Hid (szR 0 left = left) := szR_zero h0
  have HCN : Hid (shConsole.cnt x = ((shLab.cnt x.1) + (shLog.cnt x.2))) := rfl
  replace qLabBaseOps := qLabBaseOps.next T0
  replace qLabFacts := qLabFacts.next T0
  go_enter Tryz.func5, Tryz.ntmps5
  have cP := BP.cell 0
  clear cP
  have cP0 := BP.cell 0
  have cP1 := BP.cell 1
  have cP2 := BP.cell 2
  have cP3 := BP.cell 3
  have cP4 := BP.cell 4
  simp at cP0 cP1 cP2 cP3 cP4
  rw [hw0] at cP0 cP1 cP2 cP3 cP4
  go_wp2_with fail
  rw [← hw0]
  refine (szLab_any [.bool x.1.1, .int .i64 x.1.2.1.1, .slice ALabBaseOps nLabBaseOps cLabBaseOps, .slice ALabFacts nLabFacts cLabFacts, .int .i64 x.1.2.2.2] x.1 left _ (mkLab qLabBaseSize qLabBaseOps qLabFacts qLabRefused) (by omega) (by omega)).mono ?_
  rintro e w1 ⟨rfl, hb1⟩
  have T1 := below_next T0 hb1 rfl
  replace BP := BP.next hb1
  replace qLabBaseOps := qLabBaseOps.next hb1
  replace qLabFacts := qLabFacts.next hb1
  clear cP0 cP1 cP2 cP3 cP4
  have HC1 : Hid (szR (0 + (shLab.cnt x.1)) left = szR (shLab.cnt x.1) left) := by show _ = _; rw [← szR_add (by rw [HC0.out]; omega), HC0.out]
  have hbd0 := szR_bd (shLab.cnt x.1) (left := left) (by omega)
  obtain ⟨L0, HL0⟩ : ∃ L, Hid (szR (shLab.cnt x.1) left = L) := ⟨_, rfl⟩
  rw [HL0.out] at HC1 hbd0 ⊢
  by_cases z0 : L0 < 0
  · go_wp2_with fail
    go_ret
    exact ⟨ret_int (szR_le (by rw [HC1.out]; omega) (by rw [HCN.out]; omega) h0), T1⟩
  have cP := BP.cell 5
  clear cP
  have cP0 := BP.cell 5
  have cP1 := BP.cell 6
  have cP2 := BP.cell 7
  simp at cP0 cP1 cP2
  go_wp2_with fail
  refine (szLog_any [.string x.2.1, .string x.2.2.1, .int .i64 x.2.2.2] x.2 L0 _ (mkLog qLogDurable qLogPending qLogCount) (by omega) (by omega)).mono ?_
  rintro e w2 ⟨rfl, hb2⟩
  have T2 := below_next T1 hb2 rfl
  replace BP := BP.next hb2
  replace qLabBaseOps := qLabBaseOps.next hb2
  replace qLabFacts := qLabFacts.next hb2
  clear cP0 cP1 cP2
  have HC2 : Hid (szR ((0 + (shLab.cnt x.1)) + (shLog.cnt x.2)) left = szR (shLog.cnt x.2) L0) := by show _ = _; rw [← szR_add (by rw [HC1.out]; omega), HC1.out]
  have hbd1 := szR_bd (shLog.cnt x.2) (left := L0) (by omega)
  obtain ⟨L1, HL1⟩ : ∃ L, Hid (szR (shLog.cnt x.2) L0 = L) := ⟨_, rfl⟩
  rw [HL1.out] at HC2 hbd1 ⊢
  by_cases z1 : L1 < 0
  · go_wp2_with fail
    go_ret
    exact ⟨ret_int (szR_le (by rw [HC2.out]; omega) (by rw [HCN.out]; omega) h0), T2⟩
  go_wp2_with fail
  go_ret
  exact ⟨ret_int (by simp only [HCN.out, ← HC2.out]; first | done | (congr 1; omega)), T2⟩
set_option linter.unusedVariables false in
set_option maxHeartbeats 4000000 in
theorem toConsole_any (cs : List Value) (x : ConsoleM) (w : World) (h : shConsole.rd w cs x) (hn : shConsole.cnt x ≤ 1048576) :
    Calls Tryz.prog 7 #[.agg cs.toArray] w (ToE shConsole w x) := by
  obtain ⟨ALabBaseOps, nLabBaseOps, cLabBaseOps, ALabFacts, nLabFacts, cLabFacts, rfl, qLabBaseSize, qLabBaseOps, qLabFacts, qLabRefused, qLogDurable, qLogPending, qLogCount⟩ := rdConsole h
  have hcn : ((shLab.cnt x.1) + (shLog.cnt x.2)) ≤ 1048576 := hn
  obtain ⟨w0, hw0, T0, hsz0, BP, BR, BO⟩ := boxes3 w #[.bool x.1.1, .int .i64 x.1.2.1.1, .slice ALabBaseOps nLabBaseOps cLabBaseOps, .slice ALabFacts nLabFacts cLabFacts, .int .i64 x.1.2.2.2, .string x.2.1, .string x.2.2.1, .int .i64 x.2.2.2] #[.bool false, .int .i64 0, .slice none 0 0, .slice none 0 0, .int .i64 0, .string ⟨#[]⟩, .string ⟨#[]⟩, .int .i64 0] #[.bool false, .int .i64 0, .slice none 0 0, .slice none 0 0, .int .i64 0, .string ⟨#[]⟩, .string ⟨#[]⟩, .int .i64 0] 31 42
  have eLabBaseOps := qLabBaseOps.len
  have eLabFacts := qLabFacts.len
  go_enter Tryz.func7, Tryz.ntmps7
  go_wp2_with fail
  rw [← hw0]
  refine (toLab_any [.bool x.1.1, .int .i64 x.1.2.1.1, .slice ALabBaseOps nLabBaseOps cLabBaseOps, .slice ALabFacts nLabFacts cLabFacts, .int .i64 x.1.2.2.2] x.1 _ (mkLab qLabBaseSize (qLabBaseOps.next T0) (qLabFacts.next T0) qLabRefused) (by omega)).mono ?_
  rintro e w1 ⟨csLab, blLab, rfl, OLab, ILab, hb1⟩
  obtain ⟨AyLabBaseOps, nyLabBaseOps, cyLabBaseOps, AyLabFacts, nyLabFacts, cyLabFacts, rfl, -, -, -, -⟩ := rdLab (shLab.ord OLab)
  have hz1 := hb1.size
  have T1 := below_next T0 hb1 rfl
  replace BP := BP.next hb1
  replace BR := BR.next hb1
  replace BO := BO.next hb1
  clear hb1
  have cP0 := BP.cell 0
  have cP1 := BP.cell 1
  have cP2 := BP.cell 2
  have cP3 := BP.cell 3
  have cP4 := BP.cell 4
  have cP5 := BP.cell 5
  have cP6 := BP.cell 6
  have cP7 := BP.cell 7
  have cO0 := BO.cell 0
  have fO0 := BO.frozen 0
  have cO1 := BO.cell 1
  have fO1 := BO.frozen 1
  have cO2 := BO.cell 2
  have fO2 := BO.frozen 2
  have cO3 := BO.cell 3
  have fO3 := BO.frozen 3
  have cO4 := BO.cell 4
  have fO4 := BO.frozen 4
  have cO5 := BO.cell 5
  have fO5 := BO.frozen 5
  have cO6 := BO.cell 6
  have fO6 := BO.frozen 6
  have cO7 := BO.cell 7
  have fO7 := BO.frozen 7
  simp at cP0 cO0 cP1 cO1 cP2 cO2 cP3 cO3 cP4 cO4 cP5 cO5 cP6 cO6 cP7 cO7
  go_wp2_with fail
  clear cP0 cO0 fO0 cP1 cO1 fO1 cP2 cO2 fO2 cP3 cO3 fO3 cP4 cO4 fO4 cP5 cO5 fO5 cP6 cO6 fO6 cP7 cO7 fO7
  obtain ⟨w2, hw2⟩ : ∃ wb, wb = (((((w1.setCell ⟨w.heap.size + 1 + 1, 0, none⟩ (.bool x.1.1)).setCell ⟨w.heap.size + 1 + 1, 1, none⟩ (.int .i64 x.1.2.1.1)).setCell ⟨w.heap.size + 1 + 1, 2, none⟩ (.slice AyLabBaseOps nyLabBaseOps cyLabBaseOps)).setCell ⟨w.heap.size + 1 + 1, 3, none⟩ (.slice AyLabFacts nyLabFacts cyLabFacts)).setCell ⟨w.heap.size + 1 + 1, 4, none⟩ (.int .i64 x.1.2.2.2)) := ⟨_, rfl⟩
  have BO' : Blk w2 (w.heap.size + 1 + 1) 42 #[.bool x.1.1, .int .i64 x.1.2.1.1, .slice AyLabBaseOps nyLabBaseOps cyLabBaseOps, .slice AyLabFacts nyLabFacts cyLabFacts, .int .i64 x.1.2.2.2, .string ⟨#[]⟩, .string ⟨#[]⟩, .int .i64 0] := by rw [hw2]; simpa using (((((BO.set_ 0 (.bool x.1.1)).set_ 1 (.int .i64 x.1.2.1.1)).set_ 2 (.slice AyLabBaseOps nyLabBaseOps cyLabBaseOps)).set_ 3 (.slice AyLabFacts nyLabFacts cyLabFacts)).set_ 4 (.int .i64 x.1.2.2.2))
  replace BP : Blk w2 w.heap.size 31 #[.bool x.1.1, .int .i64 x.1.2.1.1, .slice ALabBaseOps nLabBaseOps cLabBaseOps, .slice ALabFacts nLabFacts cLabFacts, .int .i64 x.1.2.2.2, .string x.2.1, .string x.2.2.1, .int .i64 x.2.2.2] := by rw [hw2]; exact (((((BP.far (p := ⟨w.heap.size + 1 + 1, 0, none⟩) (by simp; try omega) (.bool x.1.1)).far (p := ⟨w.heap.size + 1 + 1, 1, none⟩) (by simp; try omega) (.int .i64 x.1.2.1.1)).far (p := ⟨w.heap.size + 1 + 1, 2, none⟩) (by simp; try omega) (.slice AyLabBaseOps nyLabBaseOps cyLabBaseOps)).far (p := ⟨w.heap.size + 1 + 1, 3, none⟩) (by simp; try omega) (.slice AyLabFacts nyLabFacts cyLabFacts)).far (p := ⟨w.heap.size + 1 + 1, 4, none⟩) (by simp; try omega) (.int .i64 x.1.2.2.2))
  replace BR : Blk w2 (w.heap.size + 1) 42 #[.bool false, .int .i64 0, .slice none 0 0, .slice none 0 0, .int .i64 0, .string ⟨#[]⟩, .string ⟨#[]⟩, .int .i64 0] := by rw [hw2]; exact (((((BR.far (p := ⟨w.heap.size + 1 + 1, 0, none⟩) (by simp; try omega) (.bool x.1.1)).far (p := ⟨w.heap.size + 1 + 1, 1, none⟩) (by simp; try omega) (.int .i64 x.1.2.1.1)).far (p := ⟨w.heap.size + 1 + 1, 2, none⟩) (by simp; try omega) (.slice AyLabBaseOps nyLabBaseOps cyLabBaseOps)).far (p := ⟨w.heap.size + 1 + 1, 3, none⟩) (by simp; try omega) (.slice AyLabFacts nyLabFacts cyLabFacts)).far (p := ⟨w.heap.size + 1 + 1, 4, none⟩) (by simp; try omega) (.int .i64 x.1.2.2.2))
  replace BO := BO'
  clear BO'
  have T2 : Below w.heap.size w w2 := by rw [hw2]; exact (((((T1.setCell (by simp; try omega) (.bool x.1.1)).setCell (by simp; try omega) (.int .i64 x.1.2.1.1)).setCell (by simp; try omega) (.slice AyLabBaseOps nyLabBaseOps cyLabBaseOps)).setCell (by simp; try omega) (.slice AyLabFacts nyLabFacts cyLabFacts)).setCell (by simp; try omega) (.int .i64 x.1.2.2.2))
  have hz2 : w2.heap.size = w1.heap.size := by rw [hw2]; simp
  replace OLab : shLab.own w2 [.bool x.1.1, .int .i64 x.1.2.1.1, .slice AyLabBaseOps nyLabBaseOps cyLabBaseOps, .slice AyLabFacts nyLabFacts cyLabFacts, .int .i64 x.1.2.2.2] x.1 blLab := by rw [hw2]; exact Sh.oset (p := ⟨w.heap.size + 1 + 1, 4, none⟩) (Sh.oset (p := ⟨w.heap.size + 1 + 1, 3, none⟩) (Sh.oset (p := ⟨w.heap.size + 1 + 1, 2, none⟩) (Sh.oset (p := ⟨w.heap.size + 1 + 1, 1, none⟩) (Sh.oset (p := ⟨w.heap.size + 1 + 1, 0, none⟩) (OLab) ILab (by show w.heap.size + 1 + 1 < _; omega) (.bool x.1.1)) ILab (by show w.heap.size + 1 + 1 < _; omega) (.int .i64 x.1.2.1.1)) ILab (by show w.heap.size + 1 + 1 < _; omega) (.slice AyLabBaseOps nyLabBaseOps cyLabBaseOps)) ILab (by show w.heap.size + 1 + 1 < _; omega) (.slice AyLabFacts nyLabFacts cyLabFacts)) ILab (by show w.heap.size + 1 + 1 < _; omega) (.int .i64 x.1.2.2.2)
  
  
  rw [← hw2]
  refine (toLog_any [.string x.2.1, .string x.2.2.1, .int .i64 x.2.2.2] x.2 _ (mkLog qLogDurable qLogPending qLogCount) (by omega)).mono ?_
  rintro e w3 ⟨csLog, blLog, rfl, OLog, ILog, hb3⟩
  obtain ⟨rfl, -, -, -⟩ := rdLog (shLog.ord OLog)
  have hz3 := hb3.size
  have T3 := below_next T2 hb3 rfl
  replace BP := BP.next hb3
  replace BR := BR.next hb3
  replace BO := BO.next hb3
  replace OLab := Sh.onext OLab hb3
  clear hb3
  have cR0 := BR.cell 0
  have fR0 := BR.frozen 0
  have cR1 := BR.cell 1
  have fR1 := BR.frozen 1
  have cR2 := BR.cell 2
  have fR2 := BR.frozen 2
  have cR3 := BR.cell 3
  have fR3 := BR.frozen 3
  have cR4 := BR.cell 4
  have fR4 := BR.frozen 4
  have cR5 := BR.cell 5
  have fR5 := BR.frozen 5
  have cR6 := BR.cell 6
  have fR6 := BR.frozen 6
  have cR7 := BR.cell 7
  have fR7 := BR.frozen 7
  simp at cR0 cR1 cR2 cR3 cR4 cR5 cR6 cR7
  have cP0 := BP.cell 0
  have cP1 := BP.cell 1
  have cP2 := BP.cell 2
  have cP3 := BP.cell 3
  have cP4 := BP.cell 4
  have cP5 := BP.cell 5
  have cP6 := BP.cell 6
  have cP7 := BP.cell 7
  have cO0 := BO.cell 0
  have fO0 := BO.frozen 0
  have cO1 := BO.cell 1
  have fO1 := BO.frozen 1
  have cO2 := BO.cell 2
  have fO2 := BO.frozen 2
  have cO3 := BO.cell 3
  have fO3 := BO.frozen 3
  have cO4 := BO.cell 4
  have fO4 := BO.frozen 4
  have cO5 := BO.cell 5
  have fO5 := BO.frozen 5
  have cO6 := BO.cell 6
  have fO6 := BO.frozen 6
  have cO7 := BO.cell 7
  have fO7 := BO.frozen 7
  simp at cP0 cO0 cP1 cO1 cP2 cO2 cP3 cO3 cP4 cO4 cP5 cO5 cP6 cO6 cP7 cO7
  go_wp2_with fail
  clear cP0 cO0 fO0 cP1 cO1 fO1 cP2 cO2 fO2 cP3 cO3 fO3 cP4 cO4 fO4 cP5 cO5 fO5 cP6 cO6 fO6 cP7 cO7 fO7
  clear cR0 fR0 cR1 fR1 cR2 fR2 cR3 fR3 cR4 fR4 cR5 fR5 cR6 fR6 cR7 fR7
  obtain ⟨w4, hw4⟩ : ∃ wb, wb = (((w3.setCell ⟨w.heap.size + 1 + 1, 5, none⟩ (.string x.2.1)).setCell ⟨w.heap.size + 1 + 1, 6, none⟩ (.string x.2.2.1)).setCell ⟨w.heap.size + 1 + 1, 7, none⟩ (.int .i64 x.2.2.2)) := ⟨_, rfl⟩
  have BO' : Blk w4 (w.heap.size + 1 + 1) 42 #[.bool x.1.1, .int .i64 x.1.2.1.1, .slice AyLabBaseOps nyLabBaseOps cyLabBaseOps, .slice AyLabFacts nyLabFacts cyLabFacts, .int .i64 x.1.2.2.2, .string x.2.1, .string x.2.2.1, .int .i64 x.2.2.2] := by rw [hw4]; simpa using (((BO.set_ 5 (.string x.2.1)).set_ 6 (.string x.2.2.1)).set_ 7 (.int .i64 x.2.2.2))
  replace BP : Blk w4 w.heap.size 31 #[.bool x.1.1, .int .i64 x.1.2.1.1, .slice ALabBaseOps nLabBaseOps cLabBaseOps, .slice ALabFacts nLabFacts cLabFacts, .int .i64 x.1.2.2.2, .string x.2.1, .string x.2.2.1, .int .i64 x.2.2.2] := by rw [hw4]; exact (((BP.far (p := ⟨w.heap.size + 1 + 1, 5, none⟩) (by simp; try omega) (.string x.2.1)).far (p := ⟨w.heap.size + 1 + 1, 6, none⟩) (by simp; try omega) (.string x.2.2.1)).far (p := ⟨w.heap.size + 1 + 1, 7, none⟩) (by simp; try omega) (.int .i64 x.2.2.2))
  replace BR : Blk w4 (w.heap.size + 1) 42 #[.bool false, .int .i64 0, .slice none 0 0, .slice none 0 0, .int .i64 0, .string ⟨#[]⟩, .string ⟨#[]⟩, .int .i64 0] := by rw [hw4]; exact (((BR.far (p := ⟨w.heap.size + 1 + 1, 5, none⟩) (by simp; try omega) (.string x.2.1)).far (p := ⟨w.heap.size + 1 + 1, 6, none⟩) (by simp; try omega) (.string x.2.2.1)).far (p := ⟨w.heap.size + 1 + 1, 7, none⟩) (by simp; try omega) (.int .i64 x.2.2.2))
  replace BO := BO'
  clear BO'
  have T4 : Below w.heap.size w w4 := by rw [hw4]; exact (((T3.setCell (by simp; try omega) (.string x.2.1)).setCell (by simp; try omega) (.string x.2.2.1)).setCell (by simp; try omega) (.int .i64 x.2.2.2))
  have hz4 : w4.heap.size = w3.heap.size := by rw [hw4]; simp
  replace OLab : shLab.own w4 [.bool x.1.1, .int .i64 x.1.2.1.1, .slice AyLabBaseOps nyLabBaseOps cyLabBaseOps, .slice AyLabFacts nyLabFacts cyLabFacts, .int .i64 x.1.2.2.2] x.1 blLab := by rw [hw4]; exact Sh.oset (p := ⟨w.heap.size + 1 + 1, 7, none⟩) (Sh.oset (p := ⟨w.heap.size + 1 + 1, 6, none⟩) (Sh.oset (p := ⟨w.heap.size + 1 + 1, 5, none⟩) (OLab) ILab (by show w.heap.size + 1 + 1 < _; omega) (.string x.2.1)) ILab (by show w.heap.size + 1 + 1 < _; omega) (.string x.2.2.1)) ILab (by show w.heap.size + 1 + 1 < _; omega) (.int .i64 x.2.2.2)
  replace OLog : shLog.own w4 [.string x.2.1, .string x.2.2.1, .int .i64 x.2.2.2] x.2 blLog := by rw [hw4]; exact Sh.oset (p := ⟨w.heap.size + 1 + 1, 7, none⟩) (Sh.oset (p := ⟨w.heap.size + 1 + 1, 6, none⟩) (Sh.oset (p := ⟨w.heap.size + 1 + 1, 5, none⟩) (OLog) ILog (by show w.heap.size + 1 + 1 < _; omega) (.string x.2.1)) ILog (by show w.heap.size + 1 + 1 < _; omega) (.string x.2.2.1)) ILog (by show w.heap.size + 1 + 1 < _; omega) (.int .i64 x.2.2.2)
  
  
  rw [← hw4]
  have BRR : Blk ((((((((w4.setCell ⟨w.heap.size + 1, 0, none⟩ (.bool x.1.1)).setCell ⟨w.heap.size + 1, 1, none⟩ (.int .i64 x.1.2.1.1)).setCell ⟨w.heap.size + 1, 2, none⟩ (.slice AyLabBaseOps nyLabBaseOps cyLabBaseOps)).setCell ⟨w.heap.size + 1, 3, none⟩ (.slice AyLabFacts nyLabFacts cyLabFacts)).setCell ⟨w.heap.size + 1, 4, none⟩ (.int .i64 x.1.2.2.2)).setCell ⟨w.heap.size + 1, 5, none⟩ (.string x.2.1)).setCell ⟨w.heap.size + 1, 6, none⟩ (.string x.2.2.1)).setCell ⟨w.heap.size + 1, 7, none⟩ (.int .i64 x.2.2.2)) (w.heap.size + 1) 42 #[.bool x.1.1, .int .i64 x.1.2.1.1, .slice AyLabBaseOps nyLabBaseOps cyLabBaseOps, .slice AyLabFacts nyLabFacts cyLabFacts, .int .i64 x.1.2.2.2, .string x.2.1, .string x.2.2.1, .int .i64 x.2.2.2] := by simpa using ((((((((BR).set_ 0 (.bool x.1.1)).set_ 1 (.int .i64 x.1.2.1.1)).set_ 2 (.slice AyLabBaseOps nyLabBaseOps cyLabBaseOps)).set_ 3 (.slice AyLabFacts nyLabFacts cyLabFacts)).set_ 4 (.int .i64 x.1.2.2.2)).set_ 5 (.string x.2.1)).set_ 6 (.string x.2.2.1)).set_ 7 (.int .i64 x.2.2.2)
  (try simp only [Exit.inBlock, Exit.then])
  refine bodyPost_ret (v := .agg #[.bool x.1.1, .int .i64 x.1.2.1.1, .slice AyLabBaseOps nyLabBaseOps cyLabBaseOps, .slice AyLabFacts nyLabFacts cyLabFacts, .int .i64 x.1.2.2.2, .string x.2.1, .string x.2.2.1, .int .i64 x.2.2.2]) (results_cell_row rfl _ _ (w.heap.size + 1) 42 #[.bool x.1.1, .int .i64 x.1.2.1.1, .slice AyLabBaseOps nyLabBaseOps cyLabBaseOps, .slice AyLabFacts nyLabFacts cyLabFacts, .int .i64 x.1.2.2.2, .string x.2.1, .string x.2.2.1, .int .i64 x.2.2.2] (0, 0) _ (by simp) BRR Tryz.underlying42 rfl (by kernel_rfl)) rfl ?_
  have hsz : ((((((((w4.setCell ⟨w.heap.size + 1, 0, none⟩ (.bool x.1.1)).setCell ⟨w.heap.size + 1, 1, none⟩ (.int .i64 x.1.2.1.1)).setCell ⟨w.heap.size + 1, 2, none⟩ (.slice AyLabBaseOps nyLabBaseOps cyLabBaseOps)).setCell ⟨w.heap.size + 1, 3, none⟩ (.slice AyLabFacts nyLabFacts cyLabFacts)).setCell ⟨w.heap.size + 1, 4, none⟩ (.int .i64 x.1.2.2.2)).setCell ⟨w.heap.size + 1, 5, none⟩ (.string x.2.1)).setCell ⟨w.heap.size + 1, 6, none⟩ (.string x.2.2.1)).setCell ⟨w.heap.size + 1, 7, none⟩ (.int .i64 x.2.2.2)).heap.size = w4.heap.size := by simp
  refine ⟨_, (blLab ++ blLog), rfl, ⟨[.bool x.1.1, .int .i64 x.1.2.1.1, .slice AyLabBaseOps nyLabBaseOps cyLabBaseOps, .slice AyLabFacts nyLabFacts cyLabFacts, .int .i64 x.1.2.2.2], [.string x.2.1, .string x.2.2.1, .int .i64 x.2.2.2], blLab, blLog, rfl, rfl, (Sh.oset (p := ⟨w.heap.size + 1, 7, none⟩) (Sh.oset (p := ⟨w.heap.size + 1, 6, none⟩) (Sh.oset (p := ⟨w.heap.size + 1, 5, none⟩) (Sh.oset (p := ⟨w.heap.size + 1, 4, none⟩) (Sh.oset (p := ⟨w.heap.size + 1, 3, none⟩) (Sh.oset (p := ⟨w.heap.size + 1, 2, none⟩) (Sh.oset (p := ⟨w.heap.size + 1, 1, none⟩) (Sh.oset (p := ⟨w.heap.size + 1, 0, none⟩) (OLab) ILab (by show w.heap.size + 1 < _; omega) (.bool x.1.1)) ILab (by show w.heap.size + 1 < _; omega) (.int .i64 x.1.2.1.1)) ILab (by show w.heap.size + 1 < _; omega) (.slice AyLabBaseOps nyLabBaseOps cyLabBaseOps)) ILab (by show w.heap.size + 1 < _; omega) (.slice AyLabFacts nyLabFacts cyLabFacts)) ILab (by show w.heap.size + 1 < _; omega) (.int .i64 x.1.2.2.2)) ILab (by show w.heap.size + 1 < _; omega) (.string x.2.1)) ILab (by show w.heap.size + 1 < _; omega) (.string x.2.2.1)) ILab (by show w.heap.size + 1 < _; omega) (.int .i64 x.2.2.2)), (Sh.oset (p := ⟨w.heap.size + 1, 7, none⟩) (Sh.oset (p := ⟨w.heap.size + 1, 6, none⟩) (Sh.oset (p := ⟨w.heap.size + 1, 5, none⟩) (Sh.oset (p := ⟨w.heap.size + 1, 4, none⟩) (Sh.oset (p := ⟨w.heap.size + 1, 3, none⟩) (Sh.oset (p := ⟨w.heap.size + 1, 2, none⟩) (Sh.oset (p := ⟨w.heap.size + 1, 1, none⟩) (Sh.oset (p := ⟨w.heap.size + 1, 0, none⟩) (OLog) ILog (by show w.heap.size + 1 < _; omega) (.bool x.1.1)) ILog (by show w.heap.size + 1 < _; omega) (.int .i64 x.1.2.1.1)) ILog (by show w.heap.size + 1 < _; omega) (.slice AyLabBaseOps nyLabBaseOps cyLabBaseOps)) ILog (by show w.heap.size + 1 < _; omega) (.slice AyLabFacts nyLabFacts cyLabFacts)) ILog (by show w.heap.size + 1 < _; omega) (.int .i64 x.1.2.2.2)) ILog (by show w.heap.size + 1 < _; omega) (.string x.2.1)) ILog (by show w.heap.size + 1 < _; omega) (.string x.2.2.1)) ILog (by show w.heap.size + 1 < _; omega) (.int .i64 x.2.2.2))⟩, ?_, ((((((((T4).setCell (by simp; try omega) (.bool x.1.1)).setCell (by simp; try omega) (.int .i64 x.1.2.1.1)).setCell (by simp; try omega) (.slice AyLabBaseOps nyLabBaseOps cyLabBaseOps)).setCell (by simp; try omega) (.slice AyLabFacts nyLabFacts cyLabFacts)).setCell (by simp; try omega) (.int .i64 x.1.2.2.2)).setCell (by simp; try omega) (.string x.2.1)).setCell (by simp; try omega) (.string x.2.2.1)).setCell (by simp; try omega) (.int .i64 x.2.2.2)⟩
  rw [hsz]
  exact Iv.mono (Iv.app (lo := w.heap.size) (hi := w4.heap.size) (a := blLab) (b := blLog) (Iv.mono ILab (by omega) (Nat.le_refl _)) (Iv.mono ILog (Nat.le_refl _) (by omega)) (by omega) (by omega) (by omega)) (by omega) (by omega)
theorem eqPConsole (x y : ConsoleM) : eqC x y = (eqC (x.1) (y.1) && eqC (x.2) (y.2)) := by
  obtain ⟨x0, x1⟩ := x
  obtain ⟨y0, y1⟩ := y
  simp only [dec_pair]
set_option linter.unusedVariables false in
set_option maxHeartbeats 4000000 in
theorem eqConsole_any (cs ds : List Value) (x y : ConsoleM) (w : World) (h : shConsole.rd w cs x) (h' : shConsole.rd w ds y) :
    Calls Tryz.prog 9 #[.agg cs.toArray, .agg ds.toArray] w (Bl w (.bool (eqC x y))) := by
  obtain ⟨ALabBaseOps, nLabBaseOps, cLabBaseOps, ALabFacts, nLabFacts, cLabFacts, rfl, qLabBaseSize, qLabBaseOps, qLabFacts, qLabRefused, qLogDurable, qLogPending, qLogCount⟩ := rdConsole h
  obtain ⟨AyLabBaseOps, nyLabBaseOps, cyLabBaseOps, AyLabFacts, nyLabFacts, cyLabFacts, rfl, qyLabBaseSize, qyLabBaseOps, qyLabFacts, qyLabRefused, qyLogDurable, qyLogPending, qyLogCount⟩ := rdConsole h'
  obtain ⟨w0, hw0, T0, hsz0, BP, BQ⟩ := boxes2 w #[.bool x.1.1, .int .i64 x.1.2.1.1, .slice ALabBaseOps nLabBaseOps cLabBaseOps, .slice ALabFacts nLabFacts cLabFacts, .int .i64 x.1.2.2.2, .string x.2.1, .string x.2.2.1, .int .i64 x.2.2.2] #[.bool y.1.1, .int .i64 y.1.2.1.1, .slice AyLabBaseOps nyLabBaseOps cyLabBaseOps, .slice AyLabFacts nyLabFacts cyLabFacts, .int .i64 y.1.2.2.2, .string y.2.1, .string y.2.2.1, .int .i64 y.2.2.2] 42 42
  replace qLabBaseOps := qLabBaseOps.next T0
  replace qyLabBaseOps := qyLabBaseOps.next T0
  replace qLabFacts := qLabFacts.next T0
  replace qyLabFacts := qyLabFacts.next T0
  have HD := Lib.hid (eqPConsole x y)
  go_enter Tryz.func9, Tryz.ntmps9
  rcases hd0 : eqC (x.1) (y.1) with _ | _
  · have HH0 := Lib.hid hd0
    clear hd0
    have cP0 := BP.cell 0
    have cQ0 := BQ.cell 0
    have cP1 := BP.cell 1
    have cQ1 := BQ.cell 1
    have cP2 := BP.cell 2
    have cQ2 := BQ.cell 2
    have cP3 := BP.cell 3
    have cQ3 := BQ.cell 3
    have cP4 := BP.cell 4
    have cQ4 := BQ.cell 4
    simp at cP0 cQ0 cP1 cQ1 cP2 cQ2 cP3 cQ3 cP4 cQ4
    rw [hw0] at cP0 cQ0 cP1 cQ1 cP2 cQ2 cP3 cQ3 cP4 cQ4
    go_wp2_with fail
    rw [← hw0]
    refine (eqLab_any [.bool x.1.1, .int .i64 x.1.2.1.1, .slice ALabBaseOps nLabBaseOps cLabBaseOps, .slice ALabFacts nLabFacts cLabFacts, .int .i64 x.1.2.2.2] [.bool y.1.1, .int .i64 y.1.2.1.1, .slice AyLabBaseOps nyLabBaseOps cyLabBaseOps, .slice AyLabFacts nyLabFacts cyLabFacts, .int .i64 y.1.2.2.2] x.1 y.1 _ (mkLab qLabBaseSize qLabBaseOps qLabFacts qLabRefused) (mkLab qyLabBaseSize qyLabBaseOps qyLabFacts qyLabRefused)).mono ?_
    rintro e w1 ⟨rfl, hb1⟩
    rw [HH0.out]
    have T1 := below_next T0 hb1 rfl
    go_wp2_with fail
    go_ret
    exact ⟨ret_bool (by rw [HD.out, HH0.out]; first | rfl | simp), T1⟩
  have HH0 := Lib.hid hd0
  clear hd0
  have cP0 := BP.cell 0
  have cQ0 := BQ.cell 0
  have cP1 := BP.cell 1
  have cQ1 := BQ.cell 1
  have cP2 := BP.cell 2
  have cQ2 := BQ.cell 2
  have cP3 := BP.cell 3
  have cQ3 := BQ.cell 3
  have cP4 := BP.cell 4
  have cQ4 := BQ.cell 4
  simp at cP0 cQ0 cP1 cQ1 cP2 cQ2 cP3 cQ3 cP4 cQ4
  rw [hw0] at cP0 cQ0 cP1 cQ1 cP2 cQ2 cP3 cQ3 cP4 cQ4
  go_wp2_with fail
  rw [← hw0]
  refine (eqLab_any [.bool x.1.1, .int .i64 x.1.2.1.1, .slice ALabBaseOps nLabBaseOps cLabBaseOps, .slice ALabFacts nLabFacts cLabFacts, .int .i64 x.1.2.2.2] [.bool y.1.1, .int .i64 y.1.2.1.1, .slice AyLabBaseOps nyLabBaseOps cyLabBaseOps, .slice AyLabFacts nyLabFacts cyLabFacts, .int .i64 y.1.2.2.2] x.1 y.1 _ (mkLab qLabBaseSize qLabBaseOps qLabFacts qLabRefused) (mkLab qyLabBaseSize qyLabBaseOps qyLabFacts qyLabRefused)).mono ?_
  rintro e w1 ⟨rfl, hb1⟩
  rw [HH0.out]
  have T1 := below_next T0 hb1 rfl
  clear cP0 cQ0 cP1 cQ1 cP2 cQ2 cP3 cQ3 cP4 cQ4
  replace BP := BP.next hb1
  replace BQ := BQ.next hb1
  replace qLabBaseOps := qLabBaseOps.next hb1
  replace qyLabBaseOps := qyLabBaseOps.next hb1
  replace qLabFacts := qLabFacts.next hb1
  replace qyLabFacts := qyLabFacts.next hb1
  rcases hd1 : eqC (x.2) (y.2) with _ | _
  · have HH1 := Lib.hid hd1
    clear hd1
    have cP5 := BP.cell 5
    have cQ5 := BQ.cell 5
    have cP6 := BP.cell 6
    have cQ6 := BQ.cell 6
    have cP7 := BP.cell 7
    have cQ7 := BQ.cell 7
    simp at cP5 cQ5 cP6 cQ6 cP7 cQ7
    go_wp2_with fail
    refine (eqLog_any [.string x.2.1, .string x.2.2.1, .int .i64 x.2.2.2] [.string y.2.1, .string y.2.2.1, .int .i64 y.2.2.2] x.2 y.2 _ (mkLog qLogDurable qLogPending qLogCount) (mkLog qyLogDurable qyLogPending qyLogCount)).mono ?_
    rintro e w2 ⟨rfl, hb2⟩
    rw [HH1.out]
    have T2 := below_next T1 hb2 rfl
    go_wp2_with fail
    go_ret
    exact ⟨ret_bool (by rw [HD.out, HH0.out, HH1.out]; first | rfl | simp), T2⟩
  have HH1 := Lib.hid hd1
  clear hd1
  have cP5 := BP.cell 5
  have cQ5 := BQ.cell 5
  have cP6 := BP.cell 6
  have cQ6 := BQ.cell 6
  have cP7 := BP.cell 7
  have cQ7 := BQ.cell 7
  simp at cP5 cQ5 cP6 cQ6 cP7 cQ7
  go_wp2_with fail
  refine (eqLog_any [.string x.2.1, .string x.2.2.1, .int .i64 x.2.2.2] [.string y.2.1, .string y.2.2.1, .int .i64 y.2.2.2] x.2 y.2 _ (mkLog qLogDurable qLogPending qLogCount) (mkLog qyLogDurable qyLogPending qyLogCount)).mono ?_
  rintro e w2 ⟨rfl, hb2⟩
  rw [HH1.out]
  have T2 := below_next T1 hb2 rfl
  clear cP5 cQ5 cP6 cQ6 cP7 cQ7
  replace BP := BP.next hb2
  replace BQ := BQ.next hb2
  replace qLabBaseOps := qLabBaseOps.next hb2
  replace qyLabBaseOps := qyLabBaseOps.next hb2
  replace qLabFacts := qLabFacts.next hb2
  replace qyLabFacts := qyLabFacts.next hb2
  go_wp2_with fail
  go_ret
  exact ⟨ret_bool (by rw [HD.out, HH0.out, HH1.out]; first | rfl | simp), T2⟩
end Go.Proofs.YtbonebpheimbaaaGreatDoor
