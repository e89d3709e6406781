
/- Walks: is a step of the lab valid, in the reference and in the program. -/
import Derived.Test.YtppnmpeicmlneaaHLabStep
import Derived.Test.YtppnmpeicmlneaaList
namespace Go.Proofs.Ytppnmpeicmlneaa
open Go.RowKit

def noEq (e : IdentityM) : Bool := decide ((e.1.length : Int) = 0) && decide ((e.2.length : Int) = 0)
def noFact (f : FactM) : Bool := decide (f.1 = 0) && (noEq f.2.1 && decide ((f.2.2.length : Int) = 0))
set_option maxHeartbeats 1000000 in
theorem l32NoEq_any (cs : List Value) (x : IdentityM) (w : World) (h : shIdentity.rd w cs x) : Calls Try.prog 139 #[.agg cs.toArray] w (Bl w (.bool (noEq x))) := by
  obtain ⟨ALeft, nLeft, cLeft, ARight, nRight, cRight, rfl, qLeft, qRight⟩ := rdIdentity h
  have HM : Hid (noEq x = (((nLeft : Int) == 0) && ((nRight : Int) == 0))) := by show _ = _; unfold noEq; rw [qLeft.len, qRight.len]; rfl
  have T0 := below_box w (.cells #[.slice ALeft nLeft cLeft, .slice ARight nRight cRight] 31)
  go_enter Try.func139, Try.ntmps139
  go_wp2
  all_goals
    go_ret
    exact ⟨ret_bool (by rw [HM.out]; first | (simp; done) | (simp; omega) | (simp [*]; done) | (simp [*]; omega)), T0⟩
set_option maxHeartbeats 2000000 in
theorem l32NoFact_any (cs : List Value) (x : FactM) (w : World) (h : shFact.rd w cs x) : Calls Try.prog 129 #[.agg cs.toArray] w (Bl w (.bool (noFact x))) := by
  obtain ⟨AEqLeft, nEqLeft, cEqLeft, AEqRight, nEqRight, cEqRight, AList, nList, cList, rfl, qKind, qEqLeft, qEqRight, qList⟩ := rdFact h
  have HM : Hid (noFact x = ((x.1 == 0) && (noEq x.2.1 && ((nList : Int) == 0)))) := by show _ = _; unfold noFact; rw [qList.len]; rfl
  obtain ⟨w0, hw0, T0, hsz0, BP⟩ := boxes1 w #[.int .i64 x.1, .slice AEqLeft nEqLeft cEqLeft, .slice AEqRight nEqRight cEqRight, .slice AList nList cList] 33
  have rE := mkIdentity (x := x.2.1) (cLeft := cEqLeft) (cRight := cEqRight) (qEqLeft.next stab_RI T0) (qEqRight.next stab_RI T0)
  rcases h1 : (x.1 == 0) with _ | _
  · go_enter Try.func129, Try.ntmps129
    have H1 := Lib.hid h1
    go_wp2_with fail
    go_ret
    exact ⟨ret_bool (by rw [HM.out, H1.out]; rfl), by rw [← hw0]; exact T0⟩
  · rcases h2 : noEq x.2.1 with _ | _
    all_goals
      have H1 := Lib.hid h1
      have H2 := Lib.hid h2
      clear h2
      go_enter Try.func129, Try.ntmps129
      go_wp2_with fail
      rw [← hw0]
      refine (l32NoEq_any _ _ _ rE).mono ?_
      rintro e w1 ⟨rfl, hb1⟩
      rw [H2.out]
      have T1 := below_next T0 hb1 rfl
      replace BP := BP.next hb1
      have cP := BP.cell 3
      simp at cP
      go_wp2_with fail
      go_ret
      exact ⟨ret_bool (by rw [HM.out, H1.out, H2.out]; simp), T1⟩

/-- What a step must have: which of its fields may be other than zero. -/
noncomputable def plainB (s : LabStepM) (tx fa li aa bb : Bool) : Bool := (tx || eqC s.2.1 ⟨#[]⟩) && ((fa || noFact s.2.2.1) && ((li || decide ((s.2.2.2.1.length : Int) = 0)) && ((aa || decide (s.2.2.2.2.1 = 0)) && (bb || decide (s.2.2.2.2.2 = 0)))))
theorem str_nil (s : ByteArray) : s.toList.isEmpty = eqC s ⟨#[]⟩ := by
  rw [ByteArray.toList_eq]
  rcases h : eqC s ⟨#[]⟩ with _ | _
  · rw [eqC_no] at h
    rcases h2 : s.data.toList with _ | ⟨a, l⟩
    · exfalso
      exact h (bs_inj (by unfold bs; rw [h2]))
    · rfl
  · rw [eqC_iff] at h
    rw [h]
    rfl
theorem str_nil' (s : ByteArray) : (s.toList == (⟨#[]⟩ : ByteArray).toList) = eqC s ⟨#[]⟩ := eqq_str rfl
set_option maxHeartbeats 8000000 in
theorem l32Plain_any (cs : List Value) (s : LabStepM) (tx fa li aa bb : Bool) (w : World) (h : shLabStep.rd w cs s)
    (hk : (tx, fa, li, aa, bb) ∈ [(true, false, false, false, false), (false, true, false, false, false), (false, false, false, true, true), (false, false, false, true, false), (false, false, true, false, false), (false, false, false, false, false)]) :
    Calls Try.prog 103 #[.agg cs.toArray, .bool tx, .bool fa, .bool li, .bool aa, .bool bb] w (Bl w (.bool (plainB s tx fa li aa bb))) := by
  obtain ⟨AFactEqLeft, nFactEqLeft, cFactEqLeft, AFactEqRight, nFactEqRight, cFactEqRight, AFactList, nFactList, cFactList, AList, nList, cList, rfl, qKind, qText, qFactKind, qFactEqLeft, qFactEqRight, qFactList, qList, qA, qB⟩ := rdLabStep h
  obtain ⟨w0, hw0, T0, hsz0, BP⟩ := boxes1 w #[.int .i64 s.1, .string s.2.1, .int .i64 s.2.2.1.1, .slice AFactEqLeft nFactEqLeft cFactEqLeft, .slice AFactEqRight nFactEqRight cFactEqRight, .slice AFactList nFactList cFactList, .slice AList nList cList, .int .i64 s.2.2.2.2.1, .int .i64 s.2.2.2.2.2] 35
  have rF := mkFact (x := s.2.2.1) (cEqLeft := cFactEqLeft) (cEqRight := cFactEqRight) (cList := cFactList) qFactKind (qFactEqLeft.next stab_RI T0) (qFactEqRight.next stab_RI T0) (qFactList.next stab_RI T0)
  have HM : Hid (plainB s tx fa li aa bb = ((tx || eqC s.2.1 ⟨#[]⟩) && ((fa || noFact s.2.2.1) && ((li || ((nList : Int) == 0)) && ((aa || (s.2.2.2.2.1 == 0)) && (bb || (s.2.2.2.2.2 == 0))))))) := by show _ = _; unfold plainB; rw [qList.len]; rfl
  obtain ⟨nf, HN⟩ : ∃ b, Hid (noFact s.2.2.1 = b) := ⟨_, rfl⟩
  rw [HN.out] at HM
  simp only [List.mem_cons, Prod.mk.injEq, List.not_mem_nil, or_false] at hk
  rcases ht : eqC s.2.1 ⟨#[]⟩ with _ | _ <;> rcases nf with _ | _
  all_goals
    rw [ht] at HM
    have ht1 := (str_nil s.2.1).trans ht
    have ht2 := (str_nil' s.2.1).trans ht
    clear ht
    rcases hk with ⟨rfl, rfl, rfl, rfl, rfl⟩ | ⟨rfl, rfl, rfl, rfl, rfl⟩ | ⟨rfl, rfl, rfl, rfl, rfl⟩ | ⟨rfl, rfl, rfl, rfl, rfl⟩ | ⟨rfl, rfl, rfl, rfl, rfl⟩ | ⟨rfl, rfl, rfl, rfl, rfl⟩
    all_goals
      go_enter Try.func103, Try.ntmps103
      go_wp2_with fail
      try
        rw [← hw0]
        refine (l32NoFact_any [.int .i64 s.2.2.1.1, .slice AFactEqLeft nFactEqLeft cFactEqLeft, .slice AFactEqRight nFactEqRight cFactEqRight, .slice AFactList nFactList cFactList] s.2.2.1 _ rF).mono ?_
        rintro e w1 ⟨rfl, hb1⟩
        rw [HN.out]
        have T1 := below_next T0 hb1 rfl
        have BP1 := BP.next hb1
        have cP := BP1.cell 6
        have cP7 := BP1.cell 7
        have cP8 := BP1.cell 8
        simp at cP cP7 cP8
        go_wp2_with fail
      all_goals
        go_ret
        exact ⟨ret_bool (by rw [HM.out]; first | (simp; done) | (simp; omega) | (simp [*]; done) | (simp [*]; omega)), by first | exact T1 | exact below_box _ _⟩

noncomputable def stepB (s : LabStepM) : Bool :=
  if s.1 = 1 then plainB s true false false false false
  else if s.1 = 2 then plainB s false true false false false
  else if s.1 = 3 ∨ s.1 = 4 then plainB s false false false true true && (decide (0 ≤ s.2.2.2.2.1) && decide (0 ≤ s.2.2.2.2.2))
  else if s.1 = 5 then plainB s false false false true false && decide (0 ≤ s.2.2.2.2.1)
  else if s.1 = 6 then plainB s false false true false false
  else if s.1 = 7 then plainB s false false false false false
  else false

theorem stepB_at (s : LabStepM) (k : Int) (h : s.1 = k) : stepB s = (if k = 1 then plainB s true false false false false
  else if k = 2 then plainB s false true false false false
  else if k = 3 ∨ k = 4 then plainB s false false false true true && (decide (0 ≤ s.2.2.2.2.1) && decide (0 ≤ s.2.2.2.2.2))
  else if k = 5 then plainB s false false false true false && decide (0 ≤ s.2.2.2.2.1)
  else if k = 6 then plainB s false false true false false
  else if k = 7 then plainB s false false false false false
  else false) := by subst h; rfl
set_option maxHeartbeats 8000000 in
theorem l32Step_any (cs : List Value) (s : LabStepM) (w : World) (h : shLabStep.rd w cs s) : Calls Try.prog 61 #[.agg cs.toArray] w (Bl w (.bool (stepB s))) := by
  obtain ⟨AFactEqLeft, nFactEqLeft, cFactEqLeft, AFactEqRight, nFactEqRight, cFactEqRight, AFactList, nFactList, cFactList, AList, nList, cList, rfl, qKind, qText, qFactKind, qFactEqLeft, qFactEqRight, qFactList, qList, qA, qB⟩ := rdLabStep h
  obtain ⟨w0, hw0, T0, hsz0, BP⟩ := boxes1 w #[.int .i64 s.1, .string s.2.1, .int .i64 s.2.2.1.1, .slice AFactEqLeft nFactEqLeft cFactEqLeft, .slice AFactEqRight nFactEqRight cFactEqRight, .slice AFactList nFactList cFactList, .slice AList nList cList, .int .i64 s.2.2.2.2.1, .int .i64 s.2.2.2.2.2] 35
  have r0 := shLabStep.stab h T0.block
  have P := fun tx fa li aa bb hk => l32Plain_any _ s tx fa li aa bb w0 r0 hk
  by_cases k1 : s.1 = 1
  · have HM : Hid (stepB s = plainB s true false false false false) := by show _ = _; rw [stepB_at s 1 k1]; simp
    have e1 : (s.1 == 1) = true := by simp; omega
    clear k1
    go_enter Try.func61, Try.ntmps61
    go_wp2_with fail
    rw [← hw0]
    refine (P _ _ _ _ _ (by simp)).mono ?_
    rintro e w1 ⟨rfl, hb1⟩
    have T1 := below_next T0 hb1 rfl
    go_wp2_with fail
    go_ret
    exact ⟨ret_bool HM.out.symm, T1⟩
  by_cases k2 : s.1 = 2
  · have HM : Hid (stepB s = plainB s false true false false false) := by show _ = _; rw [stepB_at s 2 k2]; simp
    have e1 : (s.1 == 1) = false := by simp; omega
    have e2 : (s.1 == 2) = true := by simp; omega
    clear k1 k2
    go_enter Try.func61, Try.ntmps61
    go_wp2_with fail
    rw [← hw0]
    refine (P _ _ _ _ _ (by simp)).mono ?_
    rintro e w1 ⟨rfl, hb1⟩
    have T1 := below_next T0 hb1 rfl
    go_wp2_with fail
    go_ret
    exact ⟨ret_bool HM.out.symm, T1⟩
  by_cases k3 : s.1 = 3
  · have HM : Hid (stepB s = (plainB s false false false true true && (decide (0 ≤ s.2.2.2.2.1) && decide (0 ≤ s.2.2.2.2.2)))) := by show _ = _; rw [stepB_at s 3 k3]; simp
    have e1 : (s.1 == 1) = false := by simp; omega
    have e2 : (s.1 == 2) = false := by simp; omega
    have e3 : (s.1 == 3) = true := by simp; omega
    clear k1 k2 k3
    obtain ⟨pb, HP⟩ : ∃ b, Hid (plainB s false false false true true = b) := ⟨_, rfl⟩
    rw [HP.out] at HM
    rcases pb with _ | _
    all_goals
      go_enter Try.func61, Try.ntmps61
      go_wp2_with fail
      rw [← hw0]
      refine (P _ _ _ _ _ (by simp)).mono ?_
      rintro e w1 ⟨rfl, hb1⟩
      rw [HP.out]
      have T1 := below_next T0 hb1 rfl
      have BP1 := BP.next hb1
      have cA1 := BP1.cell 7
      have cB1 := BP1.cell 8
      simp at cA1 cB1
      go_wp2_with fail
      all_goals
        go_ret
        exact ⟨ret_bool (by rw [HM.out]; first | (simp; done) | (simp; omega) | (simp [*]; done) | (simp [*]; omega)), T1⟩
  by_cases k4 : s.1 = 4
  · have HM : Hid (stepB s = (plainB s false false false true true && (decide (0 ≤ s.2.2.2.2.1) && decide (0 ≤ s.2.2.2.2.2)))) := by show _ = _; rw [stepB_at s 4 k4]; simp
    have e1 : (s.1 == 1) = false := by simp; omega
    have e2 : (s.1 == 2) = false := by simp; omega
    have e3 : (s.1 == 3) = false := by simp; omega
    have e4 : (s.1 == 4) = true := by simp; omega
    clear k1 k2 k3 k4
    obtain ⟨pb, HP⟩ : ∃ b, Hid (plainB s false false false true true = b) := ⟨_, rfl⟩
    rw [HP.out] at HM
    rcases pb with _ | _
    all_goals
      go_enter Try.func61, Try.ntmps61
      go_wp2_with fail
      rw [← hw0]
      refine (P _ _ _ _ _ (by simp)).mono ?_
      rintro e w1 ⟨rfl, hb1⟩
      rw [HP.out]
      have T1 := below_next T0 hb1 rfl
      have BP1 := BP.next hb1
      have cA1 := BP1.cell 7
      have cB1 := BP1.cell 8
      simp at cA1 cB1
      go_wp2_with fail
      all_goals
        go_ret
        exact ⟨ret_bool (by rw [HM.out]; first | (simp; done) | (simp; omega) | (simp [*]; done) | (simp [*]; omega)), T1⟩
  by_cases k5 : s.1 = 5
  · have HM : Hid (stepB s = (plainB s false false false true false && decide (0 ≤ s.2.2.2.2.1))) := by show _ = _; rw [stepB_at s 5 k5]; simp
    have e1 : (s.1 == 1) = false := by simp; omega
    have e2 : (s.1 == 2) = false := by simp; omega
    have e3 : (s.1 == 3) = false := by simp; omega
    have e4 : (s.1 == 4) = false := by simp; omega
    have e5 : (s.1 == 5) = true := by simp; omega
    clear k1 k2 k3 k4 k5
    obtain ⟨pb, HP⟩ : ∃ b, Hid (plainB s false false false true false = b) := ⟨_, rfl⟩
    rw [HP.out] at HM
    rcases pb with _ | _
    all_goals
      go_enter Try.func61, Try.ntmps61
      go_wp2_with fail
      rw [← hw0]
      refine (P _ _ _ _ _ (by simp)).mono ?_
      rintro e w1 ⟨rfl, hb1⟩
      rw [HP.out]
      have T1 := below_next T0 hb1 rfl
      have BP1 := BP.next hb1
      have cA1 := BP1.cell 7
      have cB1 := BP1.cell 8
      simp at cA1 cB1
      go_wp2_with fail
      all_goals
        go_ret
        exact ⟨ret_bool (by rw [HM.out]; first | (simp; done) | (simp; omega) | (simp [*]; done) | (simp [*]; omega)), T1⟩
  by_cases k6 : s.1 = 6
  · have HM : Hid (stepB s = plainB s false false true false false) := by show _ = _; rw [stepB_at s 6 k6]; simp
    have e1 : (s.1 == 1) = false := by simp; omega
    have e2 : (s.1 == 2) = false := by simp; omega
    have e3 : (s.1 == 3) = false := by simp; omega
    have e4 : (s.1 == 4) = false := by simp; omega
    have e5 : (s.1 == 5) = false := by simp; omega
    have e6 : (s.1 == 6) = true := by simp; omega
    clear k1 k2 k3 k4 k5 k6
    go_enter Try.func61, Try.ntmps61
    go_wp2_with fail
    rw [← hw0]
    refine (P _ _ _ _ _ (by simp)).mono ?_
    rintro e w1 ⟨rfl, hb1⟩
    have T1 := below_next T0 hb1 rfl
    go_wp2_with fail
    go_ret
    exact ⟨ret_bool HM.out.symm, T1⟩
  by_cases k7 : s.1 = 7
  · have HM : Hid (stepB s = plainB s false false false false false) := by show _ = _; rw [stepB_at s 7 k7]; simp
    have e1 : (s.1 == 1) = false := by simp; omega
    have e2 : (s.1 == 2) = false := by simp; omega
    have e3 : (s.1 == 3) = false := by simp; omega
    have e4 : (s.1 == 4) = false := by simp; omega
    have e5 : (s.1 == 5) = false := by simp; omega
    have e6 : (s.1 == 6) = false := by simp; omega
    have e7 : (s.1 == 7) = true := by simp; omega
    clear k1 k2 k3 k4 k5 k6 k7
    go_enter Try.func61, Try.ntmps61
    go_wp2_with fail
    rw [← hw0]
    refine (P _ _ _ _ _ (by simp)).mono ?_
    rintro e w1 ⟨rfl, hb1⟩
    have T1 := below_next T0 hb1 rfl
    go_wp2_with fail
    go_ret
    exact ⟨ret_bool HM.out.symm, T1⟩
  · have HM : Hid (stepB s = false) := by show _ = _; unfold stepB; rw [if_neg k1, if_neg k2, if_neg (by omega), if_neg k5, if_neg k6, if_neg k7]
    have e1 : (s.1 == 1) = false := by simp; omega
    have e2 : (s.1 == 2) = false := by simp; omega
    have e3 : (s.1 == 3) = false := by simp; omega
    have e4 : (s.1 == 4) = false := by simp; omega
    have e5 : (s.1 == 5) = false := by simp; omega
    have e6 : (s.1 == 6) = false := by simp; omega
    have e7 : (s.1 == 7) = false := by simp; omega
    clear k1 k2 k3 k4 k5 k6 k7
    go_enter Try.func61, Try.ntmps61
    go_wp2_with fail
    go_ret
    exact ⟨ret_bool HM.out.symm, by rw [← hw0]; exact T0⟩

set_option maxHeartbeats 1000000 in
theorem specIsLabStep_any (cs : List Value) (s : LabStepM) (w : World) (h : shLabStep.rd w cs s) : Calls Try.prog 16 #[.agg cs.toArray] w (Bl w (.bool (stepB s))) := by
  obtain ⟨AFactEqLeft, nFactEqLeft, cFactEqLeft, AFactEqRight, nFactEqRight, cFactEqRight, AFactList, nFactList, cFactList, AList, nList, cList, rfl, qKind, qText, qFactKind, qFactEqLeft, qFactEqRight, qFactList, qList, qA, qB⟩ := rdLabStep h
  obtain ⟨w0, hw0, T0, hsz0, BP⟩ := boxes1 w #[.int .i64 s.1, .string s.2.1, .int .i64 s.2.2.1.1, .slice AFactEqLeft nFactEqLeft cFactEqLeft, .slice AFactEqRight nFactEqRight cFactEqRight, .slice AFactList nFactList cFactList, .slice AList nList cList, .int .i64 s.2.2.2.2.1, .int .i64 s.2.2.2.2.2] 35
  have r0 := shLabStep.stab h T0.block
  go_enter Try.func16, Try.ntmps16
  go_wp2_with fail
  rw [← hw0]
  refine (l32Step_any _ s _ r0).mono ?_
  rintro e w1 ⟨rfl, hb1⟩
  have T1 := below_next T0 hb1 rfl
  go_wp2_with fail
  go_ret
  exact ⟨rfl, T1⟩

theorem noFact_zero (x : FactM) : noFact x = eqC x (0, ([], []), []) := by
  rw [Bool.eq_iff_iff, eqC_iff]
  obtain ⟨k, ⟨l, r⟩, t⟩ := x
  simp [noFact, noEq, List.length_eq_zero_iff]
set_option maxHeartbeats 2000000 in
theorem sameEq_any (cs ds : List Value) (x y : IdentityM) (w : World) (h : shIdentity.rd w cs x) (h' : shIdentity.rd w ds y) : Calls Try.prog 130 #[.agg cs.toArray, .agg ds.toArray] w (Bl w (.bool (eqC x y))) := by
  obtain ⟨ALeft, nLeft, cLeft, ARight, nRight, cRight, rfl, qLeft, qRight⟩ := rdIdentity h
  obtain ⟨AyLeft, nyLeft, cyLeft, AyRight, nyRight, cyRight, rfl, qyLeft, qyRight⟩ := rdIdentity h'
  obtain ⟨w0, hw0, T0, hsz0, BP, BQ⟩ := boxes2 w #[.slice ALeft nLeft cLeft, .slice ARight nRight cRight] #[.slice AyLeft nyLeft cyLeft, .slice AyRight nyRight cyRight] 31 31
  have HD := Lib.hid (eqPIdentity x y)
  rcases h1 : eqC x.1 y.1 with _ | _
  · have H1 := Lib.hid h1
    clear h1
    go_enter Try.func130, Try.ntmps130
    go_wp2_with fail
    rw [← hw0]
    refine (bl_same (sameList_any _ _ _ _ _ _ _ _ _ (qLeft.next stab_RI T0) (qyLeft.next stab_RI T0))).mono ?_
    rintro e w1 ⟨rfl, hb1⟩
    rw [eqL_dec, H1.out]
    have T1 := below_next T0 hb1 rfl
    go_wp2_with fail
    go_ret
    exact ⟨ret_bool (by rw [HD.out, H1.out]; rfl), T1⟩
  · rcases h2 : eqC x.2 y.2 with _ | _
    all_goals
      have H1 := Lib.hid h1
      have H2 := Lib.hid h2
      clear h2
      go_enter Try.func130, Try.ntmps130
      go_wp2_with fail
      rw [← hw0]
      refine (bl_same (sameList_any _ _ _ _ _ _ _ _ _ (qLeft.next stab_RI T0) (qyLeft.next stab_RI T0))).mono ?_
      rintro e w1 ⟨rfl, hb1⟩
      rw [eqL_dec, H1.out]
      have T1 := below_next T0 hb1 rfl
      have BP1 := BP.next hb1
      have BQ1 := BQ.next hb1
      have cP := BP1.cell 1
      have cQ := BQ1.cell 1
      simp at cP cQ
      go_wp2_with fail
      refine (bl_same (sameList_any _ _ _ _ _ _ _ _ _ (qRight.next stab_RI T1) (qyRight.next stab_RI T1))).mono ?_
      rintro e w2 ⟨rfl, hb2⟩
      rw [eqL_dec, H2.out]
      have T2 := below_next T1 hb2 rfl
      go_wp2_with fail
      go_ret
      exact ⟨ret_bool (by rw [HD.out, H1.out, H2.out]; rfl), T2⟩
set_option maxHeartbeats 4000000 in
theorem sameFact_any (cs ds : List Value) (x y : FactM) (w : World) (h : shFact.rd w cs x) (h' : shFact.rd w ds y) : Calls Try.prog 105 #[.agg cs.toArray, .agg ds.toArray] w (Bl w (.bool (eqC x y))) := by
  obtain ⟨AEqLeft, nEqLeft, cEqLeft, AEqRight, nEqRight, cEqRight, AList, nList, cList, rfl, qKind, qEqLeft, qEqRight, qList⟩ := rdFact h
  obtain ⟨AyEqLeft, nyEqLeft, cyEqLeft, AyEqRight, nyEqRight, cyEqRight, AyList, nyList, cyList, rfl, qyKind, qyEqLeft, qyEqRight, qyList⟩ := rdFact h'
  obtain ⟨w0, hw0, T0, hsz0, BP, BQ⟩ := boxes2 w #[.int .i64 x.1, .slice AEqLeft nEqLeft cEqLeft, .slice AEqRight nEqRight cEqRight, .slice AList nList cList] #[.int .i64 y.1, .slice AyEqLeft nyEqLeft cyEqLeft, .slice AyEqRight nyEqRight cyEqRight, .slice AyList nyList cyList] 33 33
  have HD := Lib.hid (eqPFact x y)
  have rE := mkIdentity (x := x.2.1) (cLeft := cEqLeft) (cRight := cEqRight) (qEqLeft.next stab_RI T0) (qEqRight.next stab_RI T0)
  have rE' := mkIdentity (x := y.2.1) (cLeft := cyEqLeft) (cRight := cyEqRight) (qyEqLeft.next stab_RI T0) (qyEqRight.next stab_RI T0)
  rcases h0 : eqC x.1 y.1 with _ | _
  · have H0 := Lib.hid h0
    have ht : (x.1 == y.1) = false := by rw [← h0, eqC_dec]; rfl
    clear h0
    go_enter Try.func105, Try.ntmps105
    go_wp2_with fail
    go_ret
    exact ⟨ret_bool (by rw [HD.out, H0.out]; rfl), by rw [← hw0]; exact T0⟩
  · have H0 := Lib.hid h0
    have ht : (x.1 == y.1) = true := by rw [← h0, eqC_dec]; rfl
    clear h0
    rcases h1 : eqC x.2.1 y.2.1 with _ | _
    · have H1 := Lib.hid h1
      clear h1
      go_enter Try.func105, Try.ntmps105
      go_wp2_with fail
      rw [← hw0]
      refine (sameEq_any _ _ _ _ _ rE rE').mono ?_
      rintro e w1 ⟨rfl, hb1⟩
      rw [H1.out]
      have T1 := below_next T0 hb1 rfl
      go_wp2_with fail
      go_ret
      exact ⟨ret_bool (by rw [HD.out, H0.out, H1.out]; rfl), T1⟩
    · rcases h2 : eqC x.2.2 y.2.2 with _ | _
      all_goals
        have H1 := Lib.hid h1
        have H2 := Lib.hid h2
        clear h2
        go_enter Try.func105, Try.ntmps105
        go_wp2_with fail
        rw [← hw0]
        refine (sameEq_any _ _ _ _ _ rE rE').mono ?_
        rintro e w1 ⟨rfl, hb1⟩
        rw [H1.out]
        have T1 := below_next T0 hb1 rfl
        have BP1 := BP.next hb1
        have BQ1 := BQ.next hb1
        have cP := BP1.cell 3
        have cQ := BQ1.cell 3
        simp at cP cQ
        go_wp2_with fail
        refine (bl_same (sameList_any _ _ _ _ _ _ _ _ _ (qList.next stab_RI T1) (qyList.next stab_RI T1))).mono ?_
        rintro e w2 ⟨rfl, hb2⟩
        rw [eqL_dec, H2.out]
        have T2 := below_next T1 hb2 rfl
        go_wp2_with fail
        go_ret
        exact ⟨ret_bool (by rw [HD.out, H0.out, H1.out, H2.out]; rfl), T2⟩
theorem zeroFact (w : World) : shFact.rd w [.int .i64 0, .slice none 0 0, .slice none 0 0, .slice none 0 0] ((0, ([], []), []) : FactM) :=
  mkFact (x := ((0, ([], []), []) : FactM)) ⟨by decide, by decide⟩ (RdL.nil _ _ _) (RdL.nil _ _ _) (RdL.nil _ _ _)
set_option maxHeartbeats 2000000 in
theorem isZeroFact_any (cs : List Value) (x : FactM) (w : World) (h : shFact.rd w cs x) : Calls Try.prog 64 #[.agg cs.toArray] w (Bl w (.bool (noFact x))) := by
  obtain ⟨AEqLeft, nEqLeft, cEqLeft, AEqRight, nEqRight, cEqRight, AList, nList, cList, rfl, qKind, qEqLeft, qEqRight, qList⟩ := rdFact h
  obtain ⟨w0, hw0, T0, hsz0, BP⟩ := boxes1 w #[.int .i64 x.1, .slice AEqLeft nEqLeft cEqLeft, .slice AEqRight nEqRight cEqRight, .slice AList nList cList] 33
  have r0 := shFact.stab h T0.block
  go_enter Try.func64, Try.ntmps64
  go_wp2_with fail
  rw [← hw0]
  refine (sameFact_any _ _ _ _ _ r0 (zeroFact _)).mono ?_
  rintro e w1 ⟨rfl, hb1⟩
  have T1 := below_next T0 hb1 rfl
  have HZ := Lib.hid (noFact_zero x).symm
  go_wp2_with fail
  go_ret
  exact ⟨ret_bool HZ.out, T1⟩
set_option maxRecDepth 20000 in
set_option maxHeartbeats 16000000 in
theorem implIsLabStep_any (cs : List Value) (s : LabStepM) (w : World) (h : shLabStep.rd w cs s) : Calls Try.prog 18 #[.agg cs.toArray] w (Bl w (.bool (stepB s))) := by
  obtain ⟨AFactEqLeft, nFactEqLeft, cFactEqLeft, AFactEqRight, nFactEqRight, cFactEqRight, AFactList, nFactList, cFactList, AList, nList, cList, rfl, qKind, qText, qFactKind, qFactEqLeft, qFactEqRight, qFactList, qList, qA, qB⟩ := rdLabStep h
  obtain ⟨w0, hw0, T0, hsz0, BP⟩ := boxes1 w #[.int .i64 s.1, .string s.2.1, .int .i64 s.2.2.1.1, .slice AFactEqLeft nFactEqLeft cFactEqLeft, .slice AFactEqRight nFactEqRight cFactEqRight, .slice AFactList nFactList cFactList, .slice AList nList cList, .int .i64 s.2.2.2.2.1, .int .i64 s.2.2.2.2.2] 35
  have rF := mkFact (x := s.2.2.1) (cEqLeft := cFactEqLeft) (cEqRight := cFactEqRight) (cList := cFactList) qFactKind (qFactEqLeft.next stab_RI T0) (qFactEqRight.next stab_RI T0) (qFactList.next stab_RI T0)
  have HX : ∀ tx fa li aa bb, Hid (plainB s tx fa li aa bb = ((tx || eqC s.2.1 ⟨#[]⟩) && ((fa || noFact s.2.2.1) && ((li || ((nList : Int) == 0)) && ((aa || (s.2.2.2.2.1 == 0)) && (bb || (s.2.2.2.2.2 == 0))))))) := fun tx fa li aa bb => by show _ = _; unfold plainB; rw [qList.len]; rfl
  obtain ⟨t, HT⟩ : ∃ b, eqC s.2.1 ⟨#[]⟩ = b := ⟨_, rfl⟩
  obtain ⟨f, HF⟩ : ∃ b, Hid (noFact s.2.2.1 = b) := ⟨_, rfl⟩
  obtain ⟨l, hl⟩ : ∃ b, ((nList : Int) == 0) = b := ⟨_, rfl⟩
  obtain ⟨a, ha⟩ : ∃ b, (s.2.2.2.2.1 == 0) = b := ⟨_, rfl⟩
  obtain ⟨b, hb⟩ : ∃ b, (s.2.2.2.2.2 == 0) = b := ⟨_, rfl⟩
  have ht1 := (str_nil s.2.1).trans HT
  have ht2 := (str_nil' s.2.1).trans HT
  have HT' := Lib.hid HT
  clear HT
  have HY : ∀ tx fa li aa bb, Hid (plainB s tx fa li aa bb = ((tx || t) && ((fa || f) && ((li || l) && ((aa || a) && (bb || b)))))) := fun tx fa li aa bb => by show _ = _; rw [(HX tx fa li aa bb).out, HT'.out, HF.out, hl, ha, hb]
  clear HX
  go_enter Try.func18, Try.ntmps18
  go_upto_region 1 with fail
  rw [← hw0]
  clear hw0
  have c1 := BP.cell 1
  have c2 := BP.cell 2
  have c3 := BP.cell 3
  have c4 := BP.cell 4
  have c5 := BP.cell 5
  have c6 := BP.cell 6
  have c8 := BP.cell 8
  simp at c1 c2 c3 c4 c5 c6 c8
  have Tk : Below w0.heap.size w0 w0 := Below.refl _ _
  go_cut [3, 4, 5, 6] (fun v3 v4 v5 v6 wx => v3 = .bool t ∧ v4 = .bool f ∧ v5 = .bool l ∧ v6 = .bool b ∧ Below w0.heap.size w0 wx)
  case first =>
    go_region_held3 (fun w' => w'.cell? ⟨w.heap.size, 1, none⟩ = some (.string s.2.1) ∧ w'.cell? ⟨w.heap.size, 2, none⟩ = some (.int .i64 s.2.2.1.1) ∧ w'.cell? ⟨w.heap.size, 3, none⟩ = some (.slice AFactEqLeft nFactEqLeft cFactEqLeft) ∧ w'.cell? ⟨w.heap.size, 4, none⟩ = some (.slice AFactEqRight nFactEqRight cFactEqRight) ∧ w'.cell? ⟨w.heap.size, 5, none⟩ = some (.slice AFactList nFactList cFactList) ∧ w'.cell? ⟨w.heap.size, 6, none⟩ = some (.slice AList nList cList) ∧ w'.cell? ⟨w.heap.size, 8, none⟩ = some (.int .i64 s.2.2.2.2.2)) (first | go_keep | exact ⟨keepc Tk c1, keepc Tk c2, keepc Tk c3, keepc Tk c4, keepc Tk c5, keepc Tk c6, keepc Tk c8⟩) ((go_at_call 64; refine (isZeroFact_any [.int .i64 s.2.2.1.1, .slice AFactEqLeft nFactEqLeft cFactEqLeft, .slice AFactEqRight nFactEqRight cFactEqRight, .slice AFactList nFactList cFactList] s.2.2.1 _ (shFact.stab rF (by first | exact Tk.block | exact (Below.drew Tk).block))).mono ?_; rintro e wn ⟨rfl, hbn⟩; replace Tk := below_next (by first | exact Tk | exact Below.drew Tk) hbn rfl; rw [HF.out]))
    all_goals (go_wp2_with fail; go_meet; exact ⟨rfl, rfl, rfl, rfl, Tk⟩)
  case rest =>
    obtain ⟨rfl, rfl, rfl, rfl, hb4⟩ := hcut
    obtain ⟨w4, HWC⟩ : ∃ wq : World, wq = wc := ⟨_, rfl⟩
    subst HWC
    have T4 := below_next T0 hb4 rfl
    replace BP := BP.next hb4
    clear hb4 Tk c1 c2 c3 c4 c5 c6 c8 ht1 ht2 hl hb
    have c0 := BP.cell 0
    have c7 := BP.cell 7
    have c8 := BP.cell 8
    simp at c0 c7 c8
    by_cases k1 : s.1 = 1
    · have HM : Hid (stepB s = (f && (l && (a && b)))) := by
        show _ = _
        rw [stepB_at s 1 k1]
        simp [(HY _ _ _ _ _).out]
      have e1 : (s.1 == 1) = true := by simp; omega
      clear k1
      go_wp2
      all_goals
        go_ret
        exact ⟨ret_bool (by refine Eq.trans ?_ HM.out.symm; first | rfl | (simp; done) | (simp [*]; done) | (simp; omega) | (simp [*]; omega)), T4⟩
    by_cases k2 : s.1 = 2
    · have HM : Hid (stepB s = (t && (l && (a && b)))) := by
        show _ = _
        rw [stepB_at s 2 k2]
        simp [(HY _ _ _ _ _).out]
      have e1 : (s.1 == 1) = false := by simp; omega
      have e2 : (s.1 == 2) = true := by simp; omega
      clear k1 k2
      go_wp2
      all_goals
        go_ret
        exact ⟨ret_bool (by refine Eq.trans ?_ HM.out.symm; first | rfl | (simp; done) | (simp [*]; done) | (simp; omega) | (simp [*]; omega)), T4⟩
    by_cases k3 : s.1 = 3
    · have HM : Hid (stepB s = ((t && (f && l)) && (decide (0 ≤ s.2.2.2.2.1) && decide (0 ≤ s.2.2.2.2.2)))) := by
        show _ = _
        rw [stepB_at s 3 k3]
        simp [(HY _ _ _ _ _).out]
      have e1 : (s.1 == 1) = false := by simp; omega
      have e2 : (s.1 == 2) = false := by simp; omega
      have e3 : (s.1 == 3) = true := by simp; omega
      clear k1 k2 k3
      go_wp2
      all_goals
        go_ret
        exact ⟨ret_bool (by refine Eq.trans ?_ HM.out.symm; first | rfl | (simp; done) | (simp [*]; done) | (simp; omega) | (simp [*]; omega)), T4⟩
    by_cases k4 : s.1 = 4
    · have HM : Hid (stepB s = ((t && (f && l)) && (decide (0 ≤ s.2.2.2.2.1) && decide (0 ≤ s.2.2.2.2.2)))) := by
        show _ = _
        rw [stepB_at s 4 k4]
        simp [(HY _ _ _ _ _).out]
      have e1 : (s.1 == 1) = false := by simp; omega
      have e2 : (s.1 == 2) = false := by simp; omega
      have e3 : (s.1 == 3) = false := by simp; omega
      have e4 : (s.1 == 4) = true := by simp; omega
      clear k1 k2 k3 k4
      go_wp2
      all_goals
        go_ret
        exact ⟨ret_bool (by refine Eq.trans ?_ HM.out.symm; first | rfl | (simp; done) | (simp [*]; done) | (simp; omega) | (simp [*]; omega)), T4⟩
    by_cases k5 : s.1 = 5
    · have HM : Hid (stepB s = ((t && (f && (l && b))) && decide (0 ≤ s.2.2.2.2.1))) := by
        show _ = _
        rw [stepB_at s 5 k5]
        simp [(HY _ _ _ _ _).out]
      have e1 : (s.1 == 1) = false := by simp; omega
      have e2 : (s.1 == 2) = false := by simp; omega
      have e3 : (s.1 == 3) = false := by simp; omega
      have e4 : (s.1 == 4) = false := by simp; omega
      have e5 : (s.1 == 5) = true := by simp; omega
      clear k1 k2 k3 k4 k5
      go_wp2
      all_goals
        go_ret
        exact ⟨ret_bool (by refine Eq.trans ?_ HM.out.symm; first | rfl | (simp; done) | (simp [*]; done) | (simp; omega) | (simp [*]; omega)), T4⟩
    by_cases k6 : s.1 = 6
    · have HM : Hid (stepB s = (t && (f && (a && b)))) := by
        show _ = _
        rw [stepB_at s 6 k6]
        simp [(HY _ _ _ _ _).out]
      have e1 : (s.1 == 1) = false := by simp; omega
      have e2 : (s.1 == 2) = false := by simp; omega
      have e3 : (s.1 == 3) = false := by simp; omega
      have e4 : (s.1 == 4) = false := by simp; omega
      have e5 : (s.1 == 5) = false := by simp; omega
      have e6 : (s.1 == 6) = true := by simp; omega
      clear k1 k2 k3 k4 k5 k6
      go_wp2
      all_goals
        go_ret
        exact ⟨ret_bool (by refine Eq.trans ?_ HM.out.symm; first | rfl | (simp; done) | (simp [*]; done) | (simp; omega) | (simp [*]; omega)), T4⟩
    by_cases k7 : s.1 = 7
    · have HM : Hid (stepB s = (t && (f && (l && (a && b))))) := by
        show _ = _
        rw [stepB_at s 7 k7]
        simp [(HY _ _ _ _ _).out]
      have e1 : (s.1 == 1) = false := by simp; omega
      have e2 : (s.1 == 2) = false := by simp; omega
      have e3 : (s.1 == 3) = false := by simp; omega
      have e4 : (s.1 == 4) = false := by simp; omega
      have e5 : (s.1 == 5) = false := by simp; omega
      have e6 : (s.1 == 6) = false := by simp; omega
      have e7 : (s.1 == 7) = true := by simp; omega
      clear k1 k2 k3 k4 k5 k6 k7
      go_wp2
      all_goals
        go_ret
        exact ⟨ret_bool (by refine Eq.trans ?_ HM.out.symm; first | rfl | (simp; done) | (simp [*]; done) | (simp; omega) | (simp [*]; omega)), T4⟩
    · have HM : Hid (stepB s = false) := by show _ = _; unfold stepB; rw [if_neg k1, if_neg k2, if_neg (by omega), if_neg k5, if_neg k6, if_neg k7]
      have e1 : (s.1 == 1) = false := by simp; omega
      have e2 : (s.1 == 2) = false := by simp; omega
      have e3 : (s.1 == 3) = false := by simp; omega
      have e4 : (s.1 == 4) = false := by simp; omega
      have e5 : (s.1 == 5) = false := by simp; omega
      have e6 : (s.1 == 6) = false := by simp; omega
      have e7 : (s.1 == 7) = false := by simp; omega
      clear k1 k2 k3 k4 k5 k6 k7
      go_wp2
      all_goals
        go_ret
        exact ⟨ret_bool (by refine Eq.trans ?_ HM.out.symm; first | rfl | (simp; done) | (simp [*]; done) | (simp; omega) | (simp [*]; omega)), T4⟩
end Go.Proofs.Ytppnmpeicmlneaa
