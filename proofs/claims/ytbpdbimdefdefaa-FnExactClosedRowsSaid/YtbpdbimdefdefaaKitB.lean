
/- The sizes of [][]bool. Printed out of the texts Kit and LawIsClosureSystem. -/
import Derived.Test.YtbpdbimdefdefaaKit
import Derived.Test.YtbpdbimdefdefaaBools
namespace Go.Proofs.Ytbpdbimdefdefaa
open Go.RowKit

theorem szBRows_ge : ∀ {xss : List (List Bool)} {left : Int}, left ≤ 1048576 → ¬ szBRows xss left < 0 → ∀ xs ∈ xss, xs.length ≤ 1048576
  | [], _, _, _, xs, h => by simp at h
  | x :: l, left, hl, h, xs, hx => by
    rw [szBRows] at h
    split at h
    · omega
    · rename_i h1
      have h2 : (x.length : Int) ≤ left := by unfold szBls at h1; split at h1 <;> omega
      rcases List.mem_cons.1 hx with rfl | hx
      · omega
      · exact szBRows_ge (by unfold szBls at *; split <;> omega) h xs hx
theorem szBRows_le : ∀ (xss : List (List Bool)) (left : Int), -1 ≤ left → szBRows xss left ≤ left
  | [], _, _ => by simp [szBRows]
  | x :: l, left, hl => by
    rw [szBRows]
    split
    · omega
    · rename_i h1
      have h2 := szBRows_le l (szBls x left) (by omega)
      have h3 : szBls x left ≤ left := by unfold szBls at *; split at h1 <;> omega
      omega
theorem szBlss_le {xss : List (List Bool)} {left : Int} (h : 0 ≤ left) : szBlss xss left ≤ left := by
  unfold szBlss
  split
  · omega
  · have := szBRows_le xss (left - xss.length) (by omega)
    omega
theorem szBlss_ge' {xss : List (List Bool)} {left : Int} (h : ¬ szBlss xss left < 0) (hl : left ≤ 1048576) : xss.length ≤ 1048576 ∧ ∀ xs ∈ xss, xs.length ≤ 1048576 := by
  unfold szBlss at h
  split at h
  · omega
  · exact ⟨by omega, szBRows_ge (by omega) h⟩
theorem totalB_le' : ∀ {xss : List (List Bool)}, (∀ xs ∈ xss, xs.length ≤ 1048576) → totalB xss ≤ xss.length * 1048576
  | [], _ => by simp [totalB]
  | x :: l, h => by
    have h1 := h x (List.mem_cons_self ..)
    have h2 := totalB_le' (xss := l) fun xs hx => h xs (List.mem_cons_of_mem _ hx)
    rw [totalB, List.length_cons, Nat.succ_mul]
    omega
theorem totalB_le {xss : List (List Bool)} (h : ∀ xs ∈ xss, xs.length ≤ 1048576) (hl : xss.length ≤ 1048576) : totalB xss ≤ 1099511627776 := by
  have h1 := totalB_le' h
  have h2 := Nat.mul_le_mul_right 1048576 hl
  omega
theorem bounds2B {w : World} {A : Option Addr} {n : Nat} {xss : List (List Bool)} (_h : RdL (RV RB) w A n xss) : ∀ xs ∈ xss, ∀ x ∈ xs, RB w (.bool x) x := fun _ _ _ _ => rfl
end Go.Proofs.Ytbpdbimdefdefaa
