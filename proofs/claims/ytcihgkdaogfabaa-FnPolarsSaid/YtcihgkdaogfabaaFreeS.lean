
/- Walks: FreeSets of the program. -/
import Derived.Test.YtcihgkdaogfabaaFree
import Derived.Test.YtcihgkdaogfabaaSysF
namespace Go.Proofs.Ytcihgkdaogfabaa
open Go.RowKit

theorem bits_bd : ∀ m, m < 64 → ∀ x ∈ bitsTo m 6, 0 ≤ x ∧ x ≤ 5 := by decide +kernel
/-- The free sets among the first m masks, in the order of the masks. -/
def frees (S : List (List Int)) : Nat → List (List Int)
  | 0 => []
  | m + 1 => frees S m ++ (if freeB S (bitsTo m 6) then [bitsTo m 6] else [])
theorem frees_len (S : List (List Int)) : ∀ m, (frees S m).length ≤ m
  | 0 => Nat.le_refl _
  | m + 1 => by
    have := frees_len S m
    rw [frees, List.length_append]
    split
    · simp; omega
    · simp; omega
theorem frees_bd (S : List (List Int)) : ∀ m, m ≤ 64 → ∀ xs ∈ frees S m, ∀ x ∈ xs, ∀ wz : World, RI wz (.int .i64 x) x
  | 0, _, xs, h, x, hx, wz => by simp [frees] at h
  | m + 1, hm, xs, h, x, hx, wz => by
    rw [frees, List.mem_append] at h
    rcases h with h | h
    · exact frees_bd S m (by omega) xs h x hx wz
    · split at h
      · rw [List.mem_singleton.1 h] at hx
        have := bits_bd m (by omega) x hx
        exact ⟨rfl, by omega, by omega⟩
      · simp at h
end Go.Proofs.Ytcihgkdaogfabaa
