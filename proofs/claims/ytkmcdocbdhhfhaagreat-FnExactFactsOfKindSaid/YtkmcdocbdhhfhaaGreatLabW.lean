
/- Walks: IsLab with the contracts of isTrueOf and l32True put in; FactFor, in the program and in the reference. -/
import Derived.Test.YtkmcdocbdhhfhaaGreatLabS
import Derived.Test.YtkmcdocbdhhfhaaGreatTrue
import Derived.Test.YtkmcdocbdhhfhaaGreatTrueS
namespace Go.Proofs.YtkmcdocbdhhfhaaGreat
open Go.RowKit
set_option linter.unusedVariables false

theorem cap_rows {α : Type} {S : Sh α} {E : TypeId} {w : World} {v : Value} {xs : List α} {bl : List Nat} (h : (Sh.rows S E).own w [v] xs bl) : ∀ B n c, v = .slice B n c → n ≤ c := by
  obtain ⟨v', css, bls, e, P, -⟩ := h
  injection e with e _
  subst e
  intro B n c e
  rcases P.row.2 with ⟨e', h0⟩ | ⟨g, cap, cur, e', -, -, h1, -⟩
  · rw [e] at e'
    injection e' with _ e2 e3
    omega
  · rw [e] at e'
    injection e' with _ e2 e3
    omega
def LabCap (cs : List Value) : Prop := ∀ F n c, cs[3]? = some (.slice F n c) → n ≤ c
theorem capLab {w : World} {cs : List Value} {x : LabM} {bl : List Nat} (h : shLab.own w cs x bl) : LabCap cs := by
  obtain ⟨c1, _, _, _, rfl, -, ⟨_, rfl, -⟩, ⟨c3, c4, _, _, rfl, -, ⟨_, _, _, _, rfl, -, ⟨_, rfl, -⟩, ⟨vo, _, _, rfl, -⟩⟩, ⟨c5, _, _, _, rfl, -, hF, -⟩⟩⟩ := h
  have hF' := hF
  obtain ⟨v, _, _, rfl, -⟩ := hF'
  intro F n c e
  simp at e
  exact cap_rows hF F n c e
theorem implIsLabv_any (cs : List Value) (x : LabM) (w : World) (h : shLab.rd w cs x) (hcap : LabCap cs) : Calls Tryz.prog 10 #[.agg cs.toArray] w (Bl w (.bool (labB x))) :=
  implIsLab_any (fun cs ds x f w h h' ha => isTrueOf_any cs ds x f w h h' (alg_iff.1 ha)) cs x w h hcap
theorem l32Good_any (cs : List Value) (x : LabM) (w : World) (h : shLab.rd w cs x) : Calls Tryz.prog 33 #[.agg cs.toArray] w (Bl w (.bool (labB x))) :=
  specGood_any (fun cs ds x f w h h' ha => l32True_any cs ds x f w h h' (alg_iff.1 ha)) cs x w h
set_option maxHeartbeats 2000000 in
theorem specIsLab_any (cs : List Value) (x : LabM) (w : World) (h : shLab.rd w cs x) : Calls Tryz.prog 8 #[.agg cs.toArray] w (Bl w (.bool (labB x))) := by
  have hrd := h
  obtain ⟨B, k, d, F, n, c, rfl, -, -, -, -⟩ := rdLab h
  obtain ⟨w0, hw0, T0, hsz0, BP⟩ := boxes1 w #[.bool x.1, .int .i64 x.2.1.1, .slice B k d, .slice F n c, .int .i64 x.2.2.2] 35
  have HG := Lib.hid (l32Good_any _ x w0 (shLab.stab hrd T0.block))
  have HW0 := Lib.hid hw0
  clear hw0 hrd h hsz0
  go_enter Tryz.func8, Tryz.ntmps8
  go_wp2_with fail
  rw [← HW0.out]
  refine HG.out.mono ?_
  rintro e w1 ⟨rfl, hb1⟩
  go_wp2_with fail
  go_ret
  exact ⟨rfl, below_next T0 hb1 rfl⟩
noncomputable def ffM (x : LabM) (f : FactM) : Int × Bool := if labB x && decide (0 ≤ posF x.2.2.1 f) then (posF x.2.2.1 f, true) else (0, false)
theorem ffM_bad {x : LabM} {f : FactM} (h : labB x = false) : ffM x f = (0, false) := by unfold ffM; rw [h]; rfl
theorem ffM_no {x : LabM} {f : FactM} (h : posF x.2.2.1 f < 0) : ffM x f = (0, false) := by
  unfold ffM
  rw [decide_eq_false (by omega), Bool.and_false]
  rfl
theorem ffM_yes {x : LabM} {f : FactM} (h : labB x = true) (hp : ¬ posF x.2.2.1 f < 0) : ffM x f = (posF x.2.2.1 f, true) := by
  unfold ffM
  rw [h, decide_eq_true (by omega)]
  rfl

set_option maxHeartbeats 4000000 in
theorem implFF_any (cs ds : List Value) (x : LabM) (f : FactM) (w : World) (h : shLab.rd w cs x) (hcap : LabCap cs) (h' : shFact.rd w ds f) :
    Calls Tryz.prog 15 #[.agg cs.toArray, .agg ds.toArray] w (Bl w (.tuple #[.int .i64 (ffM x f).1, .bool (ffM x f).2])) := by
  have hrd := h
  have hrd' := h'
  obtain ⟨B, k, d, F, n, c, rfl, -, -, qF, -⟩ := rdLab h
  obtain ⟨AL, nL, cL, AR, nR, cR, AV, nV, cV, rfl, -, -, -, -⟩ := rdFact h'
  obtain ⟨w0, hw0, T0, hsz0, BP, BQ⟩ := boxes2 w #[.bool x.1, .int .i64 x.2.1.1, .slice B k d, .slice F n c, .int .i64 x.2.2.2] #[.int .i64 f.1, .slice AL nL cL, .slice AR nR cR, .slice AV nV cV] 35 49
  have HW0 := Lib.hid hw0
  have HG := Lib.hid (implIsLabv_any _ x w0 (shLab.stab hrd T0.block) hcap)
  have cP0 := BP.cell 0
  have cP1 := BP.cell 1
  have cP2 := BP.cell 2
  have cP3 := BP.cell 3
  have cP4 := BP.cell 4
  have cQ0 := BQ.cell 0
  have cQ1 := BQ.cell 1
  have cQ2 := BQ.cell 2
  have cQ3 := BQ.cell 3
  simp at cP0 cP1 cP2 cP3 cP4 cQ0 cQ1 cQ2 cQ3
  obtain ⟨p, HP⟩ : ∃ p, Hid (posF x.2.2.1 f = p) := ⟨_, rfl⟩
  have HX : Hid (∀ wz, Below w0.heap.size w0 wz → Calls Tryz.prog 37 #[.slice F n c, .agg #[.int .i64 f.1, .slice AL nL cL, .slice AR nR cR, .slice AV nV cV]] wz (Bl wz (.int .i64 p))) := fun wz hz => by
    have := factIndex_any F n c _ x.2.2.1 f wz ((qF.next T0).next hz) (shFact.stab (shFact.stab hrd' T0.block) hz.block)
    rwa [HP.out] at this
  obtain ⟨lb, HLB⟩ : ∃ b, Hid (labB x = b) := ⟨_, rfl⟩
  rw [HLB.out] at HG
  clear hw0 hsz0 hrd hrd' h h' qF hcap
  go_enter Tryz.func15, Tryz.ntmps15
  go_upto_region 1 with fail
  rw [← HW0.out]
  go_wp2_with fail
  refine HG.out.mono ?_
  rintro e w1 ⟨rfl, hb1⟩
  have kP3 := keepc hb1 cP3
  have kQ0 := keepc hb1 cQ0
  have kQ1 := keepc hb1 cQ1
  have kQ2 := keepc hb1 cQ2
  have kQ3 := keepc hb1 cQ3
  have T1 := below_next T0 hb1 rfl
  rcases lb with _ | _
  · have HE := Lib.hid (ffM_bad (f := f) HLB.out)
    go_wp2_with fail
    go_ret2
    exact ⟨by rw [HE.out]; rfl, T1⟩
  · go_wp2_with fail
    refine (HX.out _ hb1).mono ?_
    rintro e w2 ⟨rfl, hb2⟩
    have T2 := below_next T1 hb2 rfl
    by_cases hp : p < 0
    · have HE : Hid (ffM x f = (0, false)) := ffM_no (by rw [HP.out]; exact hp)
      go_wp2_with fail
      go_ret2
      exact ⟨by rw [HE.out]; rfl, T2⟩
    · have HE : Hid (ffM x f = (p, true)) := by show _ = _; rw [← HP.out]; exact ffM_yes HLB.out (by rw [HP.out]; exact hp)
      go_wp2_with fail
      go_ret2
      exact ⟨by rw [HE.out]; rfl, T2⟩
set_option maxHeartbeats 4000000 in
theorem specFF_any (cs ds : List Value) (x : LabM) (f : FactM) (w : World) (h : shLab.rd w cs x) (h' : shFact.rd w ds f) :
    Calls Tryz.prog 13 #[.agg cs.toArray, .agg ds.toArray] w (Bl w (.tuple #[.int .i64 (ffM x f).1, .bool (ffM x f).2])) := by
  have hrd := h
  have hrd' := h'
  obtain ⟨B, k, d, F, n, c, rfl, -, -, qF, -⟩ := rdLab h
  obtain ⟨AL, nL, cL, AR, nR, cR, AV, nV, cV, rfl, -, -, -, -⟩ := rdFact h'
  obtain ⟨w0, hw0, T0, hsz0, BP, BQ⟩ := boxes2 w #[.bool x.1, .int .i64 x.2.1.1, .slice B k d, .slice F n c, .int .i64 x.2.2.2] #[.int .i64 f.1, .slice AL nL cL, .slice AR nR cR, .slice AV nV cV] 35 49
  have HW0 := Lib.hid hw0
  have HG := Lib.hid (l32Good_any _ x w0 (shLab.stab hrd T0.block))
  have cP0 := BP.cell 0
  have cP1 := BP.cell 1
  have cP2 := BP.cell 2
  have cP3 := BP.cell 3
  have cP4 := BP.cell 4
  have cQ0 := BQ.cell 0
  have cQ1 := BQ.cell 1
  have cQ2 := BQ.cell 2
  have cQ3 := BQ.cell 3
  simp at cP0 cP1 cP2 cP3 cP4 cQ0 cQ1 cQ2 cQ3
  obtain ⟨p, HP⟩ : ∃ p, Hid (posF x.2.2.1 f = p) := ⟨_, rfl⟩
  have HX : Hid (∀ wz, Below w0.heap.size w0 wz → Calls Tryz.prog 41 #[.slice F n c, .agg #[.int .i64 f.1, .slice AL nL cL, .slice AR nR cR, .slice AV nV cV]] wz (Bl wz (.int .i64 p))) := fun wz hz => by
    have := l32Find_any F n c _ x.2.2.1 f wz ((qF.next T0).next hz) (shFact.stab (shFact.stab hrd' T0.block) hz.block)
    rwa [HP.out] at this
  obtain ⟨lb, HLB⟩ : ∃ b, Hid (labB x = b) := ⟨_, rfl⟩
  rw [HLB.out] at HG
  clear hw0 hsz0 hrd hrd' h h' qF
  go_enter Tryz.func13, Tryz.ntmps13
  go_upto_region 1 with fail
  rw [← HW0.out]
  go_wp2_with fail
  refine HG.out.mono ?_
  rintro e w1 ⟨rfl, hb1⟩
  have kP3 := keepc hb1 cP3
  have kQ0 := keepc hb1 cQ0
  have kQ1 := keepc hb1 cQ1
  have kQ2 := keepc hb1 cQ2
  have kQ3 := keepc hb1 cQ3
  have T1 := below_next T0 hb1 rfl
  rcases lb with _ | _
  · have HE := Lib.hid (ffM_bad (f := f) HLB.out)
    go_wp2_with fail
    go_ret2
    exact ⟨by rw [HE.out]; rfl, T1⟩
  · go_wp2_with fail
    refine (HX.out _ hb1).mono ?_
    rintro e w2 ⟨rfl, hb2⟩
    have T2 := below_next T1 hb2 rfl
    by_cases hp : p < 0
    · have HE : Hid (ffM x f = (0, false)) := ffM_no (by rw [HP.out]; exact hp)
      go_wp2_with fail
      go_ret2
      exact ⟨by rw [HE.out]; rfl, T2⟩
    · have HE : Hid (ffM x f = (p, true)) := by show _ = _; rw [← HP.out]; exact ffM_yes HLB.out (by rw [HP.out]; exact hp)
      go_wp2_with fail
      go_ret2
      exact ⟨by rw [HE.out]; rfl, T2⟩
end Go.Proofs.YtkmcdocbdhhfhaaGreat
