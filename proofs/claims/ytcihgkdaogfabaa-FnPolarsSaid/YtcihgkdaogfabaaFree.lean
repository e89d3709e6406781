
/- Walks: whether a set is free in a system (program). -/
import Derived.Test.YtcihgkdaogfabaaWith
import Derived.Test.YtcihgkdaogfabaaList
namespace Go.Proofs.Ytcihgkdaogfabaa
open Go.RowKit

/-- The first k elements of the set are each outside the closure of the others. -/
def freeTo (S : List (List Int)) (xs : List Int) : Nat → Bool
  | 0 => true
  | k + 1 => freeTo S xs k && !(hasI (xs.getD k 0) (closeL (xs.take k ++ xs.drop (k + 1)) S))
def freeB (S : List (List Int)) (xs : List Int) : Bool := freeTo S xs xs.length
theorem freeTo_no {S : List (List Int)} {xs : List Int} : ∀ {k j : Nat}, j ≤ k → freeTo S xs j = false → freeTo S xs k = false
  | 0, j, h, e => by
    obtain rfl : j = 0 := by omega
    exact e
  | k + 1, j, h, e => by
    by_cases hj : j = k + 1
    · subst hj; exact e
    · rw [freeTo, freeTo_no (k := k) (by omega) e, Bool.false_and]
theorem rdl_bd {w : World} {A : Option Addr} {n : Nat} {xs : List Int} (h : RdL RI w A n xs) : ∀ x ∈ xs, -9223372036854775808 ≤ x ∧ x ≤ 9223372036854775807 := fun x hx => by
  obtain ⟨k, hk⟩ := List.getElem?_of_mem hx
  obtain ⟨b, o, v, e, hc, hr⟩ := h.2.2 k x hk
  exact hr.2
theorem rdl_bd2 {w : World} {A : Option Addr} {n : Nat} {S : List (List Int)} (h : RdL (RV RI) w A n S) : ∀ xs ∈ S, ∀ x ∈ xs, -9223372036854775808 ≤ x ∧ x ≤ 9223372036854775807 := fun xs hx => by
  obtain ⟨k, hk⟩ := List.getElem?_of_mem hx
  obtain ⟨b, o, v, e, hc, B, m, c, -, hr⟩ := h.2.2 k xs hk
  exact rdl_bd hr
end Go.Proofs.Ytcihgkdaogfabaa
