
/- The walk of the law FnExactIsClosureSystem. -/
import Derived.Test.YtlncpabnlnipoaaGood
namespace Go.Proofs.Ytlncpabnlnipoaa
open Go.RowKit

theorem ret_bool2 {a b c d : Bool} (h : a = c) (h' : b = d) : Ending.returned (.tuple #[.bool a, .bool b]) = .returned (.tuple #[.bool c, .bool d]) := by rw [h, h']
def sysRes (n : Int) (xss : List (List Int)) : Bool := inB n 0 6 && sysB n xss
theorem szRows_ge : ∀ {xss : List (List Int)} {left : Int}, left ≤ 1048576 → ¬ szRows xss left < 0 → ∀ xs ∈ xss, xs.length ≤ 1048576
  | [], _, _, _, xs, h => by simp at h
  | x :: l, left, hl, h, xs, hx => by
    rw [szRows] at h
    split at h
    · omega
    · rename_i h1
      have h2 : (x.length : Int) ≤ left := by unfold szInts at h1; split at h1 <;> omega
      rcases List.mem_cons.1 hx with rfl | hx
      · omega
      · exact szRows_ge (by unfold szInts at *; split <;> omega) h xs hx
theorem szIntss_ge {xss : List (List Int)} (h : ¬ szIntss xss 1048576 < 0) : xss.length ≤ 1048576 ∧ ∀ xs ∈ xss, xs.length ≤ 1048576 := by
  unfold szIntss at h
  split at h
  · omega
  · exact ⟨by omega, szRows_ge (by omega) h⟩

end Go.Proofs.Ytlncpabnlnipoaa
