
/- The harness's marks on []Op and Algebra. -/
import Derived.Test.YtkmcdocbdhhfhaaGreatDoorShape
import Derived.Test.YtkmcdocbdhhfhaaGreatDoorHAlgebra
namespace Go.Proofs.YtkmcdocbdhhfhaaGreatDoor
open Go.RowKit

def mcOp (x : OpM) : Nat := 1 + x.2.length
def mqOp (k : Int) (x : OpM) : OpM := (k, nums (k + 1) x.2.length)
def msAlgebra (x : AlgebraM) : Nat := cntS mcOp x.2
def mqAlgebra (k : Int) (x : AlgebraM) : AlgebraM := (x.1, mkL mqOp mcOp k x.2)

end Go.Proofs.YtkmcdocbdhhfhaaGreatDoor
