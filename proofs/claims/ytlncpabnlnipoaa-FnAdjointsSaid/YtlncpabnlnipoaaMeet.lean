
/- Walks that gather lists of their own: meets, identities, clones. -/
import Derived.Test.YtlncpabnlnipoaaSets
namespace Go.Proofs.Ytlncpabnlnipoaa
open Go.RowKit

/-- The members of a list that stand in another. -/
def meetL (ys : List Int) : List Int → List Int
  | [] => []
  | x :: l => if hasI x ys then x :: meetL ys l else meetL ys l
theorem meetL_len (ys : List Int) : ∀ xs, (meetL ys xs).length ≤ xs.length
  | [] => Nat.le_refl _
  | x :: l => by have := meetL_len ys l; rw [meetL]; split <;> simp <;> omega
theorem ints_snoc (xs : List Int) (x : Int) : ints (xs ++ [x]) = ints xs ++ [.int .i64 x] := by simp [ints]
/-- A list being gathered in a row of the call's own. -/
def Gat (B : Nat) (w wr : World) (v : Value) (m : Nat) (acc : List Int) : Prop := ∃ A c, v = .slice A m c ∧ acc.length = m ∧ wr.ownsRow B 3 1 (.slice A m c) m (ints acc) ∧ Below B w wr

/-- 0, 1, .. n - 1 -/
def upTo (n : Nat) : List Int := (List.range n).map fun (k : Nat) => (k : Int)
theorem upTo_succ (k : Nat) : upTo (k + 1) = upTo k ++ [(k : Int)] := by simp [upTo, List.range_succ]
theorem upTo_len (k : Nat) : (upTo k).length = k := by simp [upTo]
theorem upTo_get {n k : Nat} (h : k < n) : (upTo n)[k]? = some (k : Int) := by simp [upTo, h]

end Go.Proofs.Ytlncpabnlnipoaa
