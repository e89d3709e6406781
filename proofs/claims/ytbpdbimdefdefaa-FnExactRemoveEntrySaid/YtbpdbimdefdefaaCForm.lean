
/- Walks: CanonicalForm. -/
import Derived.Test.YtbpdbimdefdefaaCNames
namespace Go.Proofs.Ytbpdbimdefdefaa
open Go.RowKit

def cfM (x : AlgebraM) : AlgebraM := if smallB x then canA x else (0, [])
theorem small_ops {x : AlgebraM} (h : SmallP x) : x.2.length + cntS shOp.cnt x.2 ≤ 1048576 := by
  have := cnt_small h
  have h3 : shAlgebra.cnt x = 0 + (x.2.length + cntS shOp.cnt x.2) := rfl
  omega
theorem canA_small {x : AlgebraM} (h : SmallP x) : SmallP (canA x) := ren_small (canN_ok (x := x)).2 h
theorem cfM_cnt {x : AlgebraM} : shAlgebra.cnt (cfM x) ≤ 1048576 := by
  unfold cfM
  split
  · rename_i h
    exact cnt_small (canA_small (small_iff.1 h))
  · exact Nat.zero_le _
theorem PO.algO {lo : Nat} {w : World} {v : Value} {a : Int} {xs : List OpM} {css : List (List Value)} {bls : List (List Nat)} (h : PO lo w v xs css bls) (ha : InR a) : shAlgebra.own w [.int .i64 a, v] (a, xs) (obl v ++ bls.flatten) :=
  ⟨[.int .i64 a], [v], [], obl v ++ bls.flatten, rfl, rfl, ⟨_, rfl, ⟨rfl, ha.1, ha.2⟩, rfl⟩, h.own⟩
theorem nilAlg (w : World) : shAlgebra.own w [.int .i64 0, .slice none 0 0] (0, []) [] := by
  have := (PO.nil 0 w).algO (a := 0) ⟨by omega, by omega⟩
  exact this

end Go.Proofs.Ytbpdbimdefdefaa
