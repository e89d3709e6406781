
/- Walks of MeetIrreducibleSets, in the program and in the reference. -/
import Derived.Test.YtlncpabnlnipoaaIrr
namespace Go.Proofs.Ytlncpabnlnipoaa
open Go.RowKit

theorem srt_ne {xss : List (List Int)} (hs : Srt xss) {i k : Nat} {s t : List Int} (hi : xss[i]? = some s) (hk : xss[k]? = some t) : k = i ↔ t = s := by
  obtain ⟨h1, rfl⟩ := List.getElem?_eq_some_iff.1 hi
  obtain ⟨h2, rfl⟩ := List.getElem?_eq_some_iff.1 hk
  constructor
  · intro e
    subst e
    rfl
  · intro e
    have hp := List.pairwise_iff_getElem.1 hs
    rcases Nat.lt_trichotomy k i with hlt | heq | hgt
    · have := hp k i h2 h1 hlt
      rw [e] at this
      exact absurd this (lessT_irr _)
    · exact heq
    · have := hp i k h1 h2 hgt
      rw [e] at this
      exact absurd this (lessT_irr _)
end Go.Proofs.Ytlncpabnlnipoaa
