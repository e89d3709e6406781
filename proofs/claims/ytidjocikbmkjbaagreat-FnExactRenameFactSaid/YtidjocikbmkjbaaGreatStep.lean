
/- Walks: is a step of the lab valid, in the reference and in the program. -/
import Derived.Test.YtidjocikbmkjbaaGreatHLabStep
import Derived.Test.YtidjocikbmkjbaaGreatList
namespace Go.Proofs.YtidjocikbmkjbaaGreat
open Go.RowKit

def noEq (e : IdentityM) : Bool := decide ((e.1.length : Int) = 0) && decide ((e.2.length : Int) = 0)
def noFact (f : FactM) : Bool := decide (f.1 = 0) && (noEq f.2.1 && decide ((f.2.2.length : Int) = 0))
set_option maxHeartbeats 1000000 in
theorem l32NoEq_any (cs : List Value) (x : IdentityM) (w : World) (h : shIdentity.rd w cs x) : Calls Tryz.prog 43 #[.agg cs.toArray] w (Bl w (.bool (noEq x))) := by
  obtain ⟨ALeft, nLeft, cLeft, ARight, nRight, cRight, rfl, qLeft, qRight⟩ := rdIdentity h
  have HM : Hid (noEq x = (((nLeft : Int) == 0) && ((nRight : Int) == 0))) := by show _ = _; unfold noEq; rw [qLeft.len, qRight.len]; rfl
  have T0 := below_box w (.cells #[.slice ALeft nLeft cLeft, .slice ARight nRight cRight] 32)
  go_enter Tryz.func43, Tryz.ntmps43
  go_wp2
  all_goals
    go_ret
    exact ⟨ret_bool (by rw [HM.out]; first | (simp; done) | (simp; omega) | (simp [*]; done) | (simp [*]; omega)), T0⟩
/-- What a step must have: which of its fields may be other than zero. -/
noncomputable def plainB (s : LabStepM) (tx fa li aa bb : Bool) : Bool := (tx || eqC s.2.1 ⟨#[]⟩) && ((fa || noFact s.2.2.1) && ((li || decide ((s.2.2.2.1.length : Int) = 0)) && ((aa || decide (s.2.2.2.2.1 = 0)) && (bb || decide (s.2.2.2.2.2 = 0)))))
theorem str_nil (s : ByteArray) : s.toList.isEmpty = eqC s ⟨#[]⟩ := by
  rw [ByteArray.toList_eq]
  rcases h : eqC s ⟨#[]⟩ with _ | _
  · rw [eqC_no] at h
    rcases h2 : s.data.toList with _ | ⟨a, l⟩
    · exfalso
      exact h (bs_inj (by unfold bs; rw [h2]))
    · rfl
  · rw [eqC_iff] at h
    rw [h]
    rfl
theorem str_nil' (s : ByteArray) : (s.toList == (⟨#[]⟩ : ByteArray).toList) = eqC s ⟨#[]⟩ := eqq_str rfl
noncomputable def stepB (s : LabStepM) : Bool :=
  if s.1 = 1 then plainB s true false false false false
  else if s.1 = 2 then plainB s false true false false false
  else if s.1 = 3 ∨ s.1 = 4 then plainB s false false false true true && (decide (0 ≤ s.2.2.2.2.1) && decide (0 ≤ s.2.2.2.2.2))
  else if s.1 = 5 then plainB s false false false true false && decide (0 ≤ s.2.2.2.2.1)
  else if s.1 = 6 then plainB s false false true false false
  else if s.1 = 7 then plainB s false false false false false
  else false

theorem stepB_at (s : LabStepM) (k : Int) (h : s.1 = k) : stepB s = (if k = 1 then plainB s true false false false false
  else if k = 2 then plainB s false true false false false
  else if k = 3 ∨ k = 4 then plainB s false false false true true && (decide (0 ≤ s.2.2.2.2.1) && decide (0 ≤ s.2.2.2.2.2))
  else if k = 5 then plainB s false false false true false && decide (0 ≤ s.2.2.2.2.1)
  else if k = 6 then plainB s false false true false false
  else if k = 7 then plainB s false false false false false
  else false) := by subst h; rfl
theorem noFact_zero (x : FactM) : noFact x = eqC x (0, ([], []), []) := by
  rw [Bool.eq_iff_iff, eqC_iff]
  obtain ⟨k, ⟨l, r⟩, t⟩ := x
  simp [noFact, noEq, List.length_eq_zero_iff]
theorem zeroFact (w : World) : shFact.rd w [.int .i64 0, .slice none 0 0, .slice none 0 0, .slice none 0 0] ((0, ([], []), []) : FactM) :=
  mkFact (x := ((0, ([], []), []) : FactM)) ⟨by decide, by decide⟩ (RdL.nil _ _ _) (RdL.nil _ _ _) (RdL.nil _ _ _)
end Go.Proofs.YtidjocikbmkjbaaGreat
