
/- The harness's functions on Lab and []Lab: size, copy, equality. Printed by genshape.py. -/
import Derived.Test.YtppnmpeicmlneaaHAlgebra
import Derived.Test.YtppnmpeicmlneaaHFact
import Derived.Deep.RegionHeld3
import Derived.Deep.DeepCutAuto
namespace Go.Proofs.Ytppnmpeicmlneaa
open Go.RowKit

abbrev LabM : Type := (Bool × AlgebraM × List FactM × Int)
def shLab : Sh LabM := (Sh.pair Sh.bool (Sh.pair shAlgebra (Sh.pair (Sh.rows shFact 33) Sh.int)))
theorem rdLab {w : World} {cs : List Value} {x : LabM} (h : shLab.rd w cs x) : ∃ (ABaseOps : Option Addr) (nBaseOps cBaseOps : Nat) (AFacts : Option Addr) (nFacts cFacts : Nat), cs = [.bool x.1, .int .i64 x.2.1.1, .slice ABaseOps nBaseOps cBaseOps, .slice AFacts nFacts cFacts, .int .i64 x.2.2.2] ∧ InR x.2.1.1 ∧ RdN shOp.m shOp.rd w ABaseOps nBaseOps x.2.1.2 ∧ RdN shFact.m shFact.rd w AFacts nFacts x.2.2.1 ∧ InR x.2.2.2 := by
  obtain ⟨_, _, rfl, ⟨_, rfl, rfl⟩, ⟨_, _, rfl, ⟨_, _, rfl, ⟨_, rfl, rfl, loBaseSize, hiBaseSize⟩, ⟨ABaseOps, nBaseOps, cBaseOps, rfl, rBaseOps⟩⟩, ⟨_, _, rfl, ⟨AFacts, nFacts, cFacts, rfl, rFacts⟩, ⟨_, rfl, rfl, loRefused, hiRefused⟩⟩⟩⟩ := h
  exact ⟨ABaseOps, nBaseOps, cBaseOps, AFacts, nFacts, cFacts, rfl, ⟨loBaseSize, hiBaseSize⟩, rBaseOps, rFacts, ⟨loRefused, hiRefused⟩⟩
theorem mkLab {w : World} {x : LabM} {ABaseOps AFacts : Option Addr} {nBaseOps cBaseOps nFacts cFacts : Nat} (hBaseSize : InR x.2.1.1) (hBaseOps : RdN shOp.m shOp.rd w ABaseOps nBaseOps x.2.1.2) (hFacts : RdN shFact.m shFact.rd w AFacts nFacts x.2.2.1) (hRefused : InR x.2.2.2) : shLab.rd w [.bool x.1, .int .i64 x.2.1.1, .slice ABaseOps nBaseOps cBaseOps, .slice AFacts nFacts cFacts, .int .i64 x.2.2.2] x :=
  ⟨[.bool x.1], [.int .i64 x.2.1.1, .slice ABaseOps nBaseOps cBaseOps, .slice AFacts nFacts cFacts, .int .i64 x.2.2.2], rfl, ⟨_, rfl, rfl⟩, ⟨[.int .i64 x.2.1.1, .slice ABaseOps nBaseOps cBaseOps], [.slice AFacts nFacts cFacts, .int .i64 x.2.2.2], rfl, ⟨[.int .i64 x.2.1.1], [.slice ABaseOps nBaseOps cBaseOps], rfl, ⟨_, rfl, rfl, hBaseSize.1, hBaseSize.2⟩, ⟨_, _, _, rfl, hBaseOps⟩⟩, ⟨[.slice AFacts nFacts cFacts], [.int .i64 x.2.2.2], rfl, ⟨_, _, _, rfl, hFacts⟩, ⟨_, rfl, rfl, hRefused.1, hRefused.2⟩⟩⟩⟩
theorem eqPLab (x y : LabM) : eqC x y = (eqC (x.1) (y.1) && (eqC (x.2.1) (y.2.1) && (eqC (x.2.2.1) (y.2.2.1) && eqC (x.2.2.2) (y.2.2.2)))) := by
  obtain ⟨x0, x1, x2, x3⟩ := x
  obtain ⟨y0, y1, y2, y3⟩ := y
  simp only [dec_pair]
set_option linter.unusedVariables false in
set_option maxHeartbeats 4000000 in
theorem eqLab_any (cs ds : List Value) (x y : LabM) (w : World) (h : shLab.rd w cs x) (h' : shLab.rd w ds y) :
    Calls Try.prog 22 #[.agg cs.toArray, .agg ds.toArray] w (Bl w (.bool (eqC x y))) := by
  obtain ⟨ABaseOps, nBaseOps, cBaseOps, AFacts, nFacts, cFacts, rfl, qBaseSize, qBaseOps, qFacts, qRefused⟩ := rdLab h
  obtain ⟨AyBaseOps, nyBaseOps, cyBaseOps, AyFacts, nyFacts, cyFacts, rfl, qyBaseSize, qyBaseOps, qyFacts, qyRefused⟩ := rdLab h'
  obtain ⟨w0, hw0, T0, hsz0, BP, BQ⟩ := boxes2 w #[.bool x.1, .int .i64 x.2.1.1, .slice ABaseOps nBaseOps cBaseOps, .slice AFacts nFacts cFacts, .int .i64 x.2.2.2] #[.bool y.1, .int .i64 y.2.1.1, .slice AyBaseOps nyBaseOps cyBaseOps, .slice AyFacts nyFacts cyFacts, .int .i64 y.2.2.2] 44 44
  replace qBaseOps := qBaseOps.next T0
  replace qyBaseOps := qyBaseOps.next T0
  replace qFacts := qFacts.next T0
  replace qyFacts := qyFacts.next T0
  have HD := Lib.hid (eqPLab x y)
  go_enter Try.func22, Try.ntmps22
  rcases hd0 : eqC (x.1) (y.1) with _ | _
  · have ht : (x.1 == y.1) = false := eqq_bool hd0
    have HH0 := Lib.hid hd0
    clear hd0
    have cP0 := BP.cell 0
    have cQ0 := BQ.cell 0
    simp at cP0 cQ0
    rw [hw0] at cP0 cQ0
    go_wp2_with fail
    go_ret
    exact ⟨ret_bool (by rw [HD.out, HH0.out]; first | rfl | simp), by first | exact T0 | (rw [← hw0]; exact T0)⟩
  have ht0 : (x.1 == y.1) = true := eqq_bool hd0
  have HH0 := Lib.hid hd0
  clear hd0
  have cP0 := BP.cell 0
  have cQ0 := BQ.cell 0
  simp at cP0 cQ0
  rw [hw0] at cP0 cQ0
  rcases hd1 : eqC (x.2.1) (y.2.1) with _ | _
  · have HH1 := Lib.hid hd1
    clear hd1
    have cP1 := BP.cell 1
    have cQ1 := BQ.cell 1
    have cP2 := BP.cell 2
    have cQ2 := BQ.cell 2
    simp at cP1 cQ1 cP2 cQ2
    rw [hw0] at cP1 cQ1 cP2 cQ2
    go_wp2_with fail
    rw [← hw0]
    refine (eqAlgebra_any [.int .i64 x.2.1.1, .slice ABaseOps nBaseOps cBaseOps] [.int .i64 y.2.1.1, .slice AyBaseOps nyBaseOps cyBaseOps] x.2.1 y.2.1 _ (mkAlgebra qBaseSize qBaseOps) (mkAlgebra qyBaseSize qyBaseOps)).mono ?_
    rintro e w1 ⟨rfl, hb1⟩
    rw [HH1.out]
    have T1 := below_next T0 hb1 rfl
    go_wp2_with fail
    go_ret
    exact ⟨ret_bool (by rw [HD.out, HH0.out, HH1.out]; first | rfl | simp), T1⟩
  have HH1 := Lib.hid hd1
  clear hd1
  have cP1 := BP.cell 1
  have cQ1 := BQ.cell 1
  have cP2 := BP.cell 2
  have cQ2 := BQ.cell 2
  simp at cP1 cQ1 cP2 cQ2
  rw [hw0] at cP1 cQ1 cP2 cQ2
  go_wp2_with fail
  rw [← hw0]
  refine (eqAlgebra_any [.int .i64 x.2.1.1, .slice ABaseOps nBaseOps cBaseOps] [.int .i64 y.2.1.1, .slice AyBaseOps nyBaseOps cyBaseOps] x.2.1 y.2.1 _ (mkAlgebra qBaseSize qBaseOps) (mkAlgebra qyBaseSize qyBaseOps)).mono ?_
  rintro e w1 ⟨rfl, hb1⟩
  rw [HH1.out]
  have T1 := below_next T0 hb1 rfl
  clear cP1 cQ1 cP2 cQ2 cP0 cQ0 ht0
  replace BP := BP.next hb1
  replace BQ := BQ.next hb1
  replace qBaseOps := qBaseOps.next hb1
  replace qyBaseOps := qyBaseOps.next hb1
  replace qFacts := qFacts.next hb1
  replace qyFacts := qyFacts.next hb1
  rcases hd2 : eqC (x.2.2.1) (y.2.2.1) with _ | _
  · have HH2 := Lib.hid hd2
    clear hd2
    have cP3 := BP.cell 3
    have cQ3 := BQ.cell 3
    simp at cP3 cQ3
    go_wp2_with fail
    refine (eqFactS_any _ _ _ _ _ _ _ _ _ qFacts qyFacts).mono ?_
    rintro e w2 ⟨rfl, hb2⟩
    rw [HH2.out]
    have T2 := below_next T1 hb2 rfl
    go_wp2_with fail
    go_ret
    exact ⟨ret_bool (by rw [HD.out, HH0.out, HH1.out, HH2.out]; first | rfl | simp), T2⟩
  have HH2 := Lib.hid hd2
  clear hd2
  have cP3 := BP.cell 3
  have cQ3 := BQ.cell 3
  simp at cP3 cQ3
  go_wp2_with fail
  refine (eqFactS_any _ _ _ _ _ _ _ _ _ qFacts qyFacts).mono ?_
  rintro e w2 ⟨rfl, hb2⟩
  rw [HH2.out]
  have T2 := below_next T1 hb2 rfl
  clear cP3 cQ3
  replace BP := BP.next hb2
  replace BQ := BQ.next hb2
  replace qBaseOps := qBaseOps.next hb2
  replace qyBaseOps := qyBaseOps.next hb2
  replace qFacts := qFacts.next hb2
  replace qyFacts := qyFacts.next hb2
  rcases hd3 : eqC (x.2.2.2) (y.2.2.2) with _ | _
  · have ht : (x.2.2.2 != y.2.2.2) = true := neq_int hd3
    have HH3 := Lib.hid hd3
    clear hd3
    have cP4 := BP.cell 4
    have cQ4 := BQ.cell 4
    simp at cP4 cQ4
    go_wp2_with fail
    go_ret
    exact ⟨ret_bool (by rw [HD.out, HH0.out, HH1.out, HH2.out, HH3.out]; first | rfl | simp), by first | exact T2 | (rw [← hw0]; exact T2)⟩
  have ht3 : (x.2.2.2 != y.2.2.2) = false := neq_int hd3
  have HH3 := Lib.hid hd3
  clear hd3
  have cP4 := BP.cell 4
  have cQ4 := BQ.cell 4
  simp at cP4 cQ4
  go_wp2_with fail
  go_ret
  exact ⟨ret_bool (by rw [HD.out, HH0.out, HH1.out, HH2.out, HH3.out]; first | rfl | simp), T2⟩
end Go.Proofs.Ytppnmpeicmlneaa
