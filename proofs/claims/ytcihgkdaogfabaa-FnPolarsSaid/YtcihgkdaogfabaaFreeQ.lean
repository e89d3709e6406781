
/- Walks: FreeSets of the reference. -/
import Derived.Test.YtcihgkdaogfabaaFreeR
import Derived.Test.YtcihgkdaogfabaaSysF2
namespace Go.Proofs.Ytcihgkdaogfabaa
open Go.RowKit

theorem frI_len (S : List (List Int)) : ∀ m, (frI S m).length ≤ m
  | 0 => Nat.le_refl _
  | m + 1 => by
    have ih := frI_len S m
    rw [frI]
    split
    · unfold insT
      have := insPos_le (bitsTo m 6) (frI S m) (frI S m).length
      simp only [List.length_append, List.length_take, List.length_cons, List.length_drop]
      omega
    · omega
theorem bits_lt6 : ∀ k, k < 64 → ∀ i, i < (bitsTo k 6).length → 0 ≤ (bitsTo k 6).getD i 0 ∧ (bitsTo k 6).getD i 0 ≤ 5 := by decide +kernel
theorem fsRes_mem {n : Int} {S : List (List Int)} {p : List Int} (h : p ∈ fsRes n S) : p.length ≤ 6 ∧ ∀ x ∈ p, 0 ≤ x ∧ x ≤ 5 := by
  unfold fsRes at h
  split at h
  · rename_i hh
    have hr := sysRes_range hh
    have hm : 2 ^ n.toNat ≤ 64 := Nat.le_trans (Nat.pow_le_pow_right (by decide) (by omega : n.toNat ≤ 6)) (by decide)
    obtain ⟨j, h1, rfl⟩ := frees_mem hm p ((frI_mem _ _).1 h)
    exact ⟨bits_len j (by omega) 6 (by omega), bits_bd j (by omega)⟩
  · simp at h
theorem fsRes_total (n : Int) (S : List (List Int)) : total (fsRes n S) ≤ 1099511627776 := by
  refine total_le (fun p hp => by have := (fsRes_mem hp).1; omega) ?_
  unfold fsRes
  split
  · rename_i hh
    have hr := sysRes_range hh
    have hm : 2 ^ n.toNat ≤ 64 := Nat.le_trans (Nat.pow_le_pow_right (by decide) (by omega : n.toNat ≤ 6)) (by decide)
    have := frI_len S (2 ^ n.toNat)
    omega
  · simp
theorem fsRes_RI (n : Int) (S : List (List Int)) (w : World) : ∀ p ∈ fsRes n S, ∀ y ∈ p, RI w (.int .i64 y) y := fun p hp y hy => by
  have := (fsRes_mem hp).2 y hy
  exact ⟨rfl, by omega, by omega⟩
end Go.Proofs.Ytcihgkdaogfabaa
