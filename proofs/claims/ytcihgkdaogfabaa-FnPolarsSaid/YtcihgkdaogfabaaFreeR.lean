
/- Walks: FreeSets of the reference (begun: no system; the answer in the list's place). -/
import Derived.Test.YtcihgkdaogfabaaFreeP
import Derived.Test.YtcihgkdaogfabaaGood
namespace Go.Proofs.Ytcihgkdaogfabaa
open Go.RowKit

theorem fs_no {n : Int} {S : List (List Int)} (h : sysRes n S = false) : fsRes n S = [] := by unfold fsRes; rw [h]; rfl
theorem fs_yes {k : Nat} {S : List (List Int)} (h : sysRes (k : Int) S = true) : fsRes (k : Int) S = frI S (2 ^ k) := by unfold fsRes; rw [h, if_pos rfl, Int.toNat_natCast]
end Go.Proofs.Ytcihgkdaogfabaa
