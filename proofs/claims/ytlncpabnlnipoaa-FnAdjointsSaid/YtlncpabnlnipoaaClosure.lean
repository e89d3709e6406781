
/- Walks of ClosureOf, in the program and in the reference. -/
import Derived.Test.YtlncpabnlnipoaaMark
import Derived.Test.YtlncpabnlnipoaaLawIsClosureSystem
namespace Go.Proofs.Ytlncpabnlnipoaa
open Go.RowKit

/-- The first closed set that has all of a set. -/
def closeL (set : List Int) : List (List Int) → List Int
  | [] => []
  | s :: l => if partL s set then s else closeL set l
theorem closeL_bounds {set : List Int} : ∀ {l : List (List Int)}, (∀ xs ∈ l, ∀ x ∈ xs, -9223372036854775808 ≤ x ∧ x ≤ 9223372036854775807) → ∀ x ∈ closeL set l, -9223372036854775808 ≤ x ∧ x ≤ 9223372036854775807
  | [], _, x, hx => by simp [closeL] at hx
  | s :: l, h, x, hx => by
    rw [closeL] at hx
    split at hx
    · exact h s (List.mem_cons_self ..) x hx
    · exact closeL_bounds (fun xs hxs => h xs (List.mem_cons_of_mem _ hxs)) x hx

/-- The call hands back an int slice that reads so. -/
def RdR (w : World) (xs : List Int) (e : Ending) (w' : World) : Prop := ∃ A n c, e = .returned (.slice A n c) ∧ RdL RI w' A n xs ∧ Below w.heap.size w w'
/-- The call hands back an int slice of its own. -/
def OwnR (w : World) (xs : List Int) (e : Ending) (w' : World) : Prop := ∃ A n c, e = .returned (.slice A n c) ∧ w'.ownsRow w.heap.size 3 1 (.slice A n c) n (ints xs) ∧ Below w.heap.size w w'
theorem closeL_len {set : List Int} : ∀ {l : List (List Int)}, (∀ xs ∈ l, xs.length ≤ 1048576) → (closeL set l).length ≤ 1048576
  | [], _ => by simp [closeL]
  | s :: l, h => by
    rw [closeL]
    split
    · exact h s (List.mem_cons_self ..)
    · exact closeL_len fun xs hxs => h xs (List.mem_cons_of_mem _ hxs)
def closeOk (n : Int) (xss : List (List Int)) (set : List Int) : Bool := sysRes n xss && setB n set
def closeRes (n : Int) (xss : List (List Int)) (set : List Int) : List Int := if closeOk n xss set then closeL set xss else []
/-- The call hands back an int slice of its own and a bool. -/
def OwnB (w : World) (xs : List Int) (b : Bool) (e : Ending) (w' : World) : Prop := ∃ A n c, e = .returned (.tuple #[.slice A n c, .bool b]) ∧ w'.ownsRow w.heap.size 3 1 (.slice A n c) n (ints xs) ∧ Below w.heap.size w w'
theorem own_lit0 {w w1 : World} (h : Below w.heap.size w w1) : (w1.alloc (.cells #[] 3)).ownsRow w.heap.size 3 1 (.slice (some ⟨w1.heap.size, 0, none⟩) 0 0) 0 (ints []) := World.ownsRow_lit _ _ _ h.size (Nat.zero_le _) rfl
theorem sysRes_range {n : Int} {xss : List (List Int)} (h : sysRes n xss = true) : 0 ≤ n ∧ n ≤ 6 := by
  unfold sysRes inB at h
  simp at h
  exact h.1

/-- The call hands back an int slice that reads so, and a bool. -/
def RdB (w : World) (xs : List Int) (b : Bool) (e : Ending) (w' : World) : Prop := ∃ A n c, e = .returned (.tuple #[.slice A n c, .bool b]) ∧ RdL RI w' A n xs ∧ Below w.heap.size w w'
theorem closeRes_len {n : Int} {xss : List (List Int)} {set : List Int} (h : ∀ xs ∈ xss, xs.length ≤ 1048576) : (closeRes n xss set).length ≤ 1048576 := by
  unfold closeRes
  split
  · exact closeL_len h
  · simp
theorem closeRes_bounds {n : Int} {xss : List (List Int)} {set : List Int} (h : ∀ xs ∈ xss, ∀ x ∈ xs, -9223372036854775808 ≤ x ∧ x ≤ 9223372036854775807) : ∀ x ∈ closeRes n xss set, -9223372036854775808 ≤ x ∧ x ≤ 9223372036854775807 := by
  unfold closeRes
  split
  · exact closeL_bounds h
  · intro x hx; simp at hx
end Go.Proofs.Ytlncpabnlnipoaa
