
/- A proposition as a truth value. -/
import Derived.Test.YtidjocikbmkjbaaGreatMem
namespace Go.Proofs.YtidjocikbmkjbaaGreat

noncomputable def tt (p : Prop) : Bool := @decide p (Classical.propDecidable p)
theorem tt_true {p : Prop} (h : p) : true = tt p := by unfold tt; simp [h]
theorem tt_false {p : Prop} (h : ¬ p) : false = tt p := by unfold tt; simp [h]
theorem tt_iff {p : Prop} : tt p = true ↔ p := by unfold tt; simp
theorem tt_congr {p q : Prop} (h : p ↔ q) : tt p = tt q := by unfold tt; simp [h]
end Go.Proofs.YtidjocikbmkjbaaGreat
