
/- Walks: is a step of the lab valid, in the reference and in the program. -/
import Derived.Test.YtbonebpheimbaaaGreatDoorHLabStep
import Derived.Test.YtbonebpheimbaaaGreatDoorList
namespace Go.Proofs.YtbonebpheimbaaaGreatDoor
open Go.RowKit

def noEq (e : IdentityM) : Bool := decide ((e.1.length : Int) = 0) && decide ((e.2.length : Int) = 0)
def noFact (f : FactM) : Bool := decide (f.1 = 0) && (noEq f.2.1 && decide ((f.2.2.length : Int) = 0))
set_option maxHeartbeats 1000000 in
theorem l32NoEq_any (cs : List Value) (x : IdentityM) (w : World) (h : shIdentity.rd w cs x) : Calls Tryz.prog 79 #[.agg cs.toArray] w (Bl w (.bool (noEq x))) := by
  obtain ⟨ALeft, nLeft, cLeft, ARight, nRight, cRight, rfl, qLeft, qRight⟩ := rdIdentity h
  have HM : Hid (noEq x = (((nLeft : Int) == 0) && ((nRight : Int) == 0))) := by show _ = _; unfold noEq; rw [qLeft.len, qRight.len]; rfl
  have T0 := below_box w (.cells #[.slice ALeft nLeft cLeft, .slice ARight nRight cRight] 60)
  go_enter Tryz.func79, Tryz.ntmps79
  go_wp2
  all_goals
    go_ret
    exact ⟨ret_bool (by rw [HM.out]; first | (simp; done) | (simp; omega) | (simp [*]; done) | (simp [*]; omega)), T0⟩
/-- What a step must have: which of its fields may be other than zero. -/
noncomputable def plainB (s : LabStepM) (tx fa li aa bb : Bool) : Bool := (tx || eqC s.2.1 ⟨#[]⟩) && ((fa || noFact s.2.2.1) && ((li || decide ((s.2.2.2.1.length : Int) = 0)) && ((aa || decide (s.2.2.2.2.1 = 0)) && (bb || decide (s.2.2.2.2.2 = 0)))))
theorem str_nil (s : ByteArray) : s.toList.isEmpty = eqC s ⟨#[]⟩ := by
  rw [ByteArray.toList_eq]
  rcases h : eqC s ⟨#[]⟩ with _ | _
  · rw [eqC_no] at h
    rcases h2 : s.data.toList with _ | ⟨a, l⟩
    · exfalso
      exact h (bs_inj (by unfold bs; rw [h2]))
    · rfl
  · rw [eqC_iff] at h
    rw [h]
    rfl
theorem str_nil' (s : ByteArray) : (s.toList == (⟨#[]⟩ : ByteArray).toList) = eqC s ⟨#[]⟩ := eqq_str rfl
noncomputable def stepB (s : LabStepM) : Bool :=
  if s.1 = 1 then plainB s true false false false false
  else if s.1 = 2 then plainB s false true false false false
  else if s.1 = 3 ∨ s.1 = 4 then plainB s false false false true true && (decide (0 ≤ s.2.2.2.2.1) && decide (0 ≤ s.2.2.2.2.2))
  else if s.1 = 5 then plainB s false false false true false && decide (0 ≤ s.2.2.2.2.1)
  else if s.1 = 6 then plainB s false false true false false
  else if s.1 = 7 then plainB s false false false false false
  else false

theorem stepB_at (s : LabStepM) (k : Int) (h : s.1 = k) : stepB s = (if k = 1 then plainB s true false false false false
  else if k = 2 then plainB s false true false false false
  else if k = 3 ∨ k = 4 then plainB s false false false true true && (decide (0 ≤ s.2.2.2.2.1) && decide (0 ≤ s.2.2.2.2.2))
  else if k = 5 then plainB s false false false true false && decide (0 ≤ s.2.2.2.2.1)
  else if k = 6 then plainB s false false true false false
  else if k = 7 then plainB s false false false false false
  else false) := by subst h; rfl
theorem noFact_zero (x : FactM) : noFact x = eqC x (0, ([], []), []) := by
  rw [Bool.eq_iff_iff, eqC_iff]
  obtain ⟨k, ⟨l, r⟩, t⟩ := x
  simp [noFact, noEq, List.length_eq_zero_iff]
set_option maxHeartbeats 2000000 in
theorem sameEq_any (cs ds : List Value) (x y : IdentityM) (w : World) (h : shIdentity.rd w cs x) (h' : shIdentity.rd w ds y) : Calls Tryz.prog 105 #[.agg cs.toArray, .agg ds.toArray] w (Bl w (.bool (eqC x y))) := by
  obtain ⟨ALeft, nLeft, cLeft, ARight, nRight, cRight, rfl, qLeft, qRight⟩ := rdIdentity h
  obtain ⟨AyLeft, nyLeft, cyLeft, AyRight, nyRight, cyRight, rfl, qyLeft, qyRight⟩ := rdIdentity h'
  obtain ⟨w0, hw0, T0, hsz0, BP, BQ⟩ := boxes2 w #[.slice ALeft nLeft cLeft, .slice ARight nRight cRight] #[.slice AyLeft nyLeft cyLeft, .slice AyRight nyRight cyRight] 60 60
  have HD := Lib.hid (eqPIdentity x y)
  rcases h1 : eqC x.1 y.1 with _ | _
  · have H1 := Lib.hid h1
    clear h1
    go_enter Tryz.func105, Tryz.ntmps105
    go_wp2_with fail
    rw [← hw0]
    refine (bl_same (sameList_any _ _ _ _ _ _ _ _ _ (qLeft.next stab_RI T0) (qyLeft.next stab_RI T0))).mono ?_
    rintro e w1 ⟨rfl, hb1⟩
    rw [eqL_dec, H1.out]
    have T1 := below_next T0 hb1 rfl
    go_wp2_with fail
    go_ret
    exact ⟨ret_bool (by rw [HD.out, H1.out]; rfl), T1⟩
  · rcases h2 : eqC x.2 y.2 with _ | _
    all_goals
      have H1 := Lib.hid h1
      have H2 := Lib.hid h2
      clear h2
      go_enter Tryz.func105, Tryz.ntmps105
      go_wp2_with fail
      rw [← hw0]
      refine (bl_same (sameList_any _ _ _ _ _ _ _ _ _ (qLeft.next stab_RI T0) (qyLeft.next stab_RI T0))).mono ?_
      rintro e w1 ⟨rfl, hb1⟩
      rw [eqL_dec, H1.out]
      have T1 := below_next T0 hb1 rfl
      have BP1 := BP.next hb1
      have BQ1 := BQ.next hb1
      have cP := BP1.cell 1
      have cQ := BQ1.cell 1
      simp at cP cQ
      go_wp2_with fail
      refine (bl_same (sameList_any _ _ _ _ _ _ _ _ _ (qRight.next stab_RI T1) (qyRight.next stab_RI T1))).mono ?_
      rintro e w2 ⟨rfl, hb2⟩
      rw [eqL_dec, H2.out]
      have T2 := below_next T1 hb2 rfl
      go_wp2_with fail
      go_ret
      exact ⟨ret_bool (by rw [HD.out, H1.out, H2.out]; rfl), T2⟩
set_option maxHeartbeats 4000000 in
theorem sameFact_any (cs ds : List Value) (x y : FactM) (w : World) (h : shFact.rd w cs x) (h' : shFact.rd w ds y) : Calls Tryz.prog 63 #[.agg cs.toArray, .agg ds.toArray] w (Bl w (.bool (eqC x y))) := by
  obtain ⟨AEqLeft, nEqLeft, cEqLeft, AEqRight, nEqRight, cEqRight, AList, nList, cList, rfl, qKind, qEqLeft, qEqRight, qList⟩ := rdFact h
  obtain ⟨AyEqLeft, nyEqLeft, cyEqLeft, AyEqRight, nyEqRight, cyEqRight, AyList, nyList, cyList, rfl, qyKind, qyEqLeft, qyEqRight, qyList⟩ := rdFact h'
  obtain ⟨w0, hw0, T0, hsz0, BP, BQ⟩ := boxes2 w #[.int .i64 x.1, .slice AEqLeft nEqLeft cEqLeft, .slice AEqRight nEqRight cEqRight, .slice AList nList cList] #[.int .i64 y.1, .slice AyEqLeft nyEqLeft cyEqLeft, .slice AyEqRight nyEqRight cyEqRight, .slice AyList nyList cyList] 62 62
  have HD := Lib.hid (eqPFact x y)
  have rE := mkIdentity (x := x.2.1) (cLeft := cEqLeft) (cRight := cEqRight) (qEqLeft.next stab_RI T0) (qEqRight.next stab_RI T0)
  have rE' := mkIdentity (x := y.2.1) (cLeft := cyEqLeft) (cRight := cyEqRight) (qyEqLeft.next stab_RI T0) (qyEqRight.next stab_RI T0)
  rcases h0 : eqC x.1 y.1 with _ | _
  · have H0 := Lib.hid h0
    have ht : (x.1 == y.1) = false := by rw [← h0, eqC_dec]; rfl
    clear h0
    go_enter Tryz.func63, Tryz.ntmps63
    go_wp2_with fail
    go_ret
    exact ⟨ret_bool (by rw [HD.out, H0.out]; rfl), by rw [← hw0]; exact T0⟩
  · have H0 := Lib.hid h0
    have ht : (x.1 == y.1) = true := by rw [← h0, eqC_dec]; rfl
    clear h0
    rcases h1 : eqC x.2.1 y.2.1 with _ | _
    · have H1 := Lib.hid h1
      clear h1
      go_enter Tryz.func63, Tryz.ntmps63
      go_wp2_with fail
      rw [← hw0]
      refine (sameEq_any _ _ _ _ _ rE rE').mono ?_
      rintro e w1 ⟨rfl, hb1⟩
      rw [H1.out]
      have T1 := below_next T0 hb1 rfl
      go_wp2_with fail
      go_ret
      exact ⟨ret_bool (by rw [HD.out, H0.out, H1.out]; rfl), T1⟩
    · rcases h2 : eqC x.2.2 y.2.2 with _ | _
      all_goals
        have H1 := Lib.hid h1
        have H2 := Lib.hid h2
        clear h2
        go_enter Tryz.func63, Tryz.ntmps63
        go_wp2_with fail
        rw [← hw0]
        refine (sameEq_any _ _ _ _ _ rE rE').mono ?_
        rintro e w1 ⟨rfl, hb1⟩
        rw [H1.out]
        have T1 := below_next T0 hb1 rfl
        have BP1 := BP.next hb1
        have BQ1 := BQ.next hb1
        have cP := BP1.cell 3
        have cQ := BQ1.cell 3
        simp at cP cQ
        go_wp2_with fail
        refine (bl_same (sameList_any _ _ _ _ _ _ _ _ _ (qList.next stab_RI T1) (qyList.next stab_RI T1))).mono ?_
        rintro e w2 ⟨rfl, hb2⟩
        rw [eqL_dec, H2.out]
        have T2 := below_next T1 hb2 rfl
        go_wp2_with fail
        go_ret
        exact ⟨ret_bool (by rw [HD.out, H0.out, H1.out, H2.out]; rfl), T2⟩
theorem zeroFact (w : World) : shFact.rd w [.int .i64 0, .slice none 0 0, .slice none 0 0, .slice none 0 0] ((0, ([], []), []) : FactM) :=
  mkFact (x := ((0, ([], []), []) : FactM)) ⟨by decide, by decide⟩ (RdL.nil _ _ _) (RdL.nil _ _ _) (RdL.nil _ _ _)
end Go.Proofs.YtbonebpheimbaaaGreatDoor
