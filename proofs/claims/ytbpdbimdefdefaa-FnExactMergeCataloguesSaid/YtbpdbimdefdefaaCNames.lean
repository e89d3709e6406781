
/- Walks: CanonicalNames. -/
import Derived.Test.YtbpdbimdefdefaaCanon
namespace Go.Proofs.Ytbpdbimdefdefaa
open Go.RowKit

def cnM (x : AlgebraM) : List Int := if smallB x then canN x else []
theorem cnM_R {x : AlgebraM} : ∀ y ∈ cnM x, InR y := by
  intro y hy
  unfold cnM at hy
  split at hy
  · rename_i h
    have hs := small_iff.1 h
    have := (canN_ok (x := x)).2.2.1 y hy
    have := hs.2.1
    exact ⟨by omega, by omega⟩
  · cases hy
theorem cnM_len {x : AlgebraM} : (cnM x).length ≤ 4194304 := by
  unfold cnM
  split
  · rename_i h
    have hs := small_iff.1 h
    rw [(canN_ok (x := x)).2.1]
    have := hs.2.1
    omega
  · exact Nat.zero_le _

end Go.Proofs.Ytbpdbimdefdefaa
