
/- Walks: IsLab with the contracts of isTrueOf and l32True put in; FactFor, in the program and in the reference. -/
import Derived.Test.YtbonebpheimbaaaGreatDoorLabS
import Derived.Test.YtbonebpheimbaaaGreatDoorTrue
import Derived.Test.YtbonebpheimbaaaGreatDoorTrueS
namespace Go.Proofs.YtbonebpheimbaaaGreatDoor
open Go.RowKit
set_option linter.unusedVariables false

theorem cap_rows {α : Type} {S : Sh α} {E : TypeId} {w : World} {v : Value} {xs : List α} {bl : List Nat} (h : (Sh.rows S E).own w [v] xs bl) : ∀ B n c, v = .slice B n c → n ≤ c := by
  obtain ⟨v', css, bls, e, P, -⟩ := h
  injection e with e _
  subst e
  intro B n c e
  rcases P.row.2 with ⟨e', h0⟩ | ⟨g, cap, cur, e', -, -, h1, -⟩
  · rw [e] at e'
    injection e' with _ e2 e3
    omega
  · rw [e] at e'
    injection e' with _ e2 e3
    omega
def LabCap (cs : List Value) : Prop := ∀ F n c, cs[3]? = some (.slice F n c) → n ≤ c
theorem capLab {w : World} {cs : List Value} {x : LabM} {bl : List Nat} (h : shLab.own w cs x bl) : LabCap cs := by
  obtain ⟨c1, _, _, _, rfl, -, ⟨_, rfl, -⟩, ⟨c3, c4, _, _, rfl, -, ⟨_, _, _, _, rfl, -, ⟨_, rfl, -⟩, ⟨vo, _, _, rfl, -⟩⟩, ⟨c5, _, _, _, rfl, -, hF, -⟩⟩⟩ := h
  have hF' := hF
  obtain ⟨v, _, _, rfl, -⟩ := hF'
  intro F n c e
  simp at e
  exact cap_rows hF F n c e
theorem implIsLabv_any (cs : List Value) (x : LabM) (w : World) (h : shLab.rd w cs x) (hcap : LabCap cs) : Calls Tryz.prog 17 #[.agg cs.toArray] w (Bl w (.bool (labB x))) :=
  implIsLab_any (fun cs ds x f w h h' ha => isTrueOf_any cs ds x f w h h' (alg_iff.1 ha)) cs x w h hcap
theorem l32Good_any (cs : List Value) (x : LabM) (w : World) (h : shLab.rd w cs x) : Calls Tryz.prog 31 #[.agg cs.toArray] w (Bl w (.bool (labB x))) :=
  specGood_any (fun cs ds x f w h h' ha => l32True_any cs ds x f w h h' (alg_iff.1 ha)) cs x w h
noncomputable def ffM (x : LabM) (f : FactM) : Int × Bool := if labB x && decide (0 ≤ posF x.2.2.1 f) then (posF x.2.2.1 f, true) else (0, false)
theorem ffM_bad {x : LabM} {f : FactM} (h : labB x = false) : ffM x f = (0, false) := by unfold ffM; rw [h]; rfl
theorem ffM_no {x : LabM} {f : FactM} (h : posF x.2.2.1 f < 0) : ffM x f = (0, false) := by
  unfold ffM
  rw [decide_eq_false (by omega), Bool.and_false]
  rfl
theorem ffM_yes {x : LabM} {f : FactM} (h : labB x = true) (hp : ¬ posF x.2.2.1 f < 0) : ffM x f = (posF x.2.2.1 f, true) := by
  unfold ffM
  rw [h, decide_eq_true (by omega)]
  rfl

end Go.Proofs.YtbonebpheimbaaaGreatDoor
namespace Go.Proofs.YtbonebpheimbaaaGreatDoor
open Go.RowKit

theorem lab_parts {x : LabM} (h : labB x = true) : 0 ≤ x.2.2.2 ∧ x.2.2.2 ≤ 9999 ∧ x.2.2.1.length ≤ 12 ∧ (x.1 = true → AlgP x.2.1) := by
  have h12 : x.2.2.1.length ≤ 12 := by
    by_cases hc : x.2.2.1.length ≤ 12
    · exact hc
    · rw [labB_many hc] at h; cases h
  have h0 : 0 ≤ x.2.2.2 := by
    by_cases hc : x.2.2.2 < 0
    · rw [labB_lo hc] at h; cases h
    · omega
  have h1 : x.2.2.2 ≤ 9999 := by
    by_cases hc : 9999 < x.2.2.2
    · rw [labB_hi hc] at h; cases h
    · omega
  refine ⟨h0, h1, h12, fun ho => ?_⟩
  rw [labB_open h0 h1 ho, Bool.and_eq_true, Bool.and_eq_true] at h
  exact alg_iff.1 h.1.1
end Go.Proofs.YtbonebpheimbaaaGreatDoor
