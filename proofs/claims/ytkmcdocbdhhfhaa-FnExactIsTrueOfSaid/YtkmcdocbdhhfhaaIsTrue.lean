
/- Walks: IsTrueOf, in the program and in the reference. -/
import Derived.Test.YtkmcdocbdhhfhaaTrue
import Derived.Test.YtkmcdocbdhhfhaaTrueS
namespace Go.Proofs.Ytkmcdocbdhhfhaa
open Go.RowKit
set_option linter.unusedVariables false

noncomputable def trueM (x : AlgebraM) (f : FactM) : Bool := algB x && trueB x f
set_option maxHeartbeats 4000000 in
theorem implTO_any (cs ds : List Value) (x : AlgebraM) (f : FactM) (w : World) (h : shAlgebra.rd w cs x) (h' : shFact.rd w ds f) :
    Calls Try.prog 9 #[.agg cs.toArray, .agg ds.toArray] w (Bl w (.tuple #[.bool (trueM x f), .bool (algB x)])) := by
  have hrd := h
  have hrd' := h'
  obtain ⟨B, k, d, rfl, -, qo⟩ := rdAlgebra h
  obtain ⟨AL, nL, cL, AR, nR, cR, AV, nV, cV, rfl, -, rL, rR, rV⟩ := rdFact h'
  obtain ⟨w0, hw0, T0, hsz0, BP, BQ⟩ := boxes2 w #[.int .i64 x.1, .slice B k d] #[.int .i64 f.1, .slice AL nL cL, .slice AR nR cR, .slice AV nV cV] 36 40
  have HW0 := Lib.hid hw0
  have H1 : Hid (∀ wz, Below w0.heap.size w0 wz → shAlgebra.rd wz [.int .i64 x.1, .slice B k d] x) := fun wz hz => shAlgebra.stab (shAlgebra.stab hrd T0.block) hz.block
  have H2 : Hid (∀ wz, Below w0.heap.size w0 wz → shFact.rd wz [.int .i64 f.1, .slice AL nL cL, .slice AR nR cR, .slice AV nV cV] f) := fun wz hz => shFact.stab (shFact.stab hrd' T0.block) hz.block
  have cP0 := BP.cell 0
  have cP1 := BP.cell 1
  have cQ0 := BQ.cell 0
  have cQ1 := BQ.cell 1
  have cQ2 := BQ.cell 2
  have cQ3 := BQ.cell 3
  simp at cP0 cP1 cQ0 cQ1 cQ2 cQ3
  have HA := Lib.hid (isAlgebra_any _ x w0 (H1.out _ (Below.refl _ _)))
  obtain ⟨ab, HAB⟩ : ∃ b, Hid (algB x = b) := ⟨_, rfl⟩
  rw [HAB.out] at HA
  have HM : Hid (trueM x f = (ab && trueB x f)) := by show _ = _; unfold trueM; rw [HAB.out]
  rw [HM.out, HAB.out]
  clear hw0 hsz0 hrd hrd' qo h h' rL rR rV
  go_enter Try.func9, Try.ntmps9
  go_upto_region 1 with fail
  rw [← HW0.out]
  go_wp2_with fail
  refine HA.out.mono ?_
  rintro e w1 ⟨rfl, hb1⟩
  replace cP0 := keepc hb1 cP0
  replace cP1 := keepc hb1 cP1
  replace cQ0 := keepc hb1 cQ0
  replace cQ1 := keepc hb1 cQ1
  replace cQ2 := keepc hb1 cQ2
  replace cQ3 := keepc hb1 cQ3
  rcases ab with _ | _
  · go_wp2_with fail
    go_ret2
    exact ⟨rfl, below_next T0 hb1 rfl⟩
  · have HC := Lib.hid (isTrueOf_any _ _ x f w1 (H1.out _ hb1) (H2.out _ hb1) (alg_iff.1 HAB.out))
    obtain ⟨tb, HTB⟩ : ∃ b, Hid (trueB x f = b) := ⟨_, rfl⟩
    rw [HTB.out] at HC
    go_wp2_with fail
    refine HC.out.mono ?_
    rintro e w2 ⟨rfl, hb2⟩
    go_wp2_with fail
    go_ret2
    exact ⟨by rw [HTB.out]; rfl, below_next T0 (below_next hb1 hb2 rfl) rfl⟩
set_option maxHeartbeats 4000000 in
theorem specTO_any (cs ds : List Value) (x : AlgebraM) (f : FactM) (w : World) (h : shAlgebra.rd w cs x) (h' : shFact.rd w ds f) :
    Calls Try.prog 6 #[.agg cs.toArray, .agg ds.toArray] w (Bl w (.tuple #[.bool (trueM x f), .bool (algB x)])) := by
  have hrd := h
  have hrd' := h'
  obtain ⟨B, k, d, rfl, -, qo⟩ := rdAlgebra h
  obtain ⟨AL, nL, cL, AR, nR, cR, AV, nV, cV, rfl, -, rL, rR, rV⟩ := rdFact h'
  obtain ⟨w0, hw0, T0, hsz0, BP, BQ⟩ := boxes2 w #[.int .i64 x.1, .slice B k d] #[.int .i64 f.1, .slice AL nL cL, .slice AR nR cR, .slice AV nV cV] 36 40
  have HW0 := Lib.hid hw0
  have H1 : Hid (∀ wz, Below w0.heap.size w0 wz → shAlgebra.rd wz [.int .i64 x.1, .slice B k d] x) := fun wz hz => shAlgebra.stab (shAlgebra.stab hrd T0.block) hz.block
  have H2 : Hid (∀ wz, Below w0.heap.size w0 wz → shFact.rd wz [.int .i64 f.1, .slice AL nL cL, .slice AR nR cR, .slice AV nV cV] f) := fun wz hz => shFact.stab (shFact.stab hrd' T0.block) hz.block
  have cP0 := BP.cell 0
  have cP1 := BP.cell 1
  have cQ0 := BQ.cell 0
  have cQ1 := BQ.cell 1
  have cQ2 := BQ.cell 2
  have cQ3 := BQ.cell 3
  simp at cP0 cP1 cQ0 cQ1 cQ2 cQ3
  have HA := Lib.hid (l2Good_any _ x w0 (H1.out _ (Below.refl _ _)))
  obtain ⟨ab, HAB⟩ : ∃ b, Hid (algB x = b) := ⟨_, rfl⟩
  rw [HAB.out] at HA
  have HM : Hid (trueM x f = (ab && trueB x f)) := by show _ = _; unfold trueM; rw [HAB.out]
  rw [HM.out, HAB.out]
  clear hw0 hsz0 hrd hrd' qo h h' rL rR rV
  go_enter Try.func6, Try.ntmps6
  go_upto_region 1 with fail
  rw [← HW0.out]
  go_wp2_with fail
  refine HA.out.mono ?_
  rintro e w1 ⟨rfl, hb1⟩
  replace cP0 := keepc hb1 cP0
  replace cP1 := keepc hb1 cP1
  replace cQ0 := keepc hb1 cQ0
  replace cQ1 := keepc hb1 cQ1
  replace cQ2 := keepc hb1 cQ2
  replace cQ3 := keepc hb1 cQ3
  rcases ab with _ | _
  · go_wp2_with fail
    go_ret2
    exact ⟨rfl, below_next T0 hb1 rfl⟩
  · have HC := Lib.hid (l32True_any _ _ x f w1 (H1.out _ hb1) (H2.out _ hb1) (alg_iff.1 HAB.out))
    obtain ⟨tb, HTB⟩ : ∃ b, Hid (trueB x f = b) := ⟨_, rfl⟩
    rw [HTB.out] at HC
    go_wp2_with fail
    refine HC.out.mono ?_
    rintro e w2 ⟨rfl, hb2⟩
    go_wp2_with fail
    go_ret2
    exact ⟨by rw [HTB.out]; rfl, below_next T0 (below_next hb1 hb2 rfl) rfl⟩
end Go.Proofs.Ytkmcdocbdhhfhaa
