
/- Walks: a list without one of its elements. -/
import Derived.Test.YtcihgkdaogfabaaBits
import Derived.Test.YtcihgkdaogfabaaMeet
import Derived.Test.YtcihgkdaogfabaaClosure
import Derived.Deep.RegionLaw
import Derived.Deep.RegionHeld3
import Derived.Deep.DeepCutAuto
import Derived.BigGuardPart
namespace Go.Proofs.Ytcihgkdaogfabaa
open Go.RowKit

theorem rdl_take {w : World} {b o n : Nat} {xs : List Int} (h : RdL RI w (some ⟨b, o, none⟩) n xs) {k : Nat} (hk : k ≤ n) : RdL RI w (some ⟨b, o, none⟩) k (xs.take k) := by
  have hl := h.1
  refine ⟨by rw [List.length_take]; omega, Nat.le_trans hk h.2.1, fun j x hj => ?_⟩
  rw [List.getElem?_take] at hj
  split at hj
  · exact h.2.2 j x hj
  · cases hj
theorem rdl_drop {w : World} {b o n : Nat} {xs : List Int} (h : RdL RI w (some ⟨b, o, none⟩) n xs) (k : Nat) : RdL RI w (some ⟨b, o + k, none⟩) (n - k) (xs.drop k) := by
  refine ⟨by rw [List.length_drop, h.1], Nat.le_trans (Nat.sub_le _ _) h.2.1, fun j x hj => ?_⟩
  rw [List.getElem?_drop] at hj
  obtain ⟨b', o', v, e, hc, hr⟩ := h.2.2 (k + j) x hj
  simp only [Option.some.injEq, Addr.mk.injEq, and_true] at e
  obtain ⟨rfl, rfl⟩ := e
  exact ⟨b, o + k, v, rfl, by rw [Nat.add_assoc]; exact hc, hr⟩
end Go.Proofs.Ytcihgkdaogfabaa
