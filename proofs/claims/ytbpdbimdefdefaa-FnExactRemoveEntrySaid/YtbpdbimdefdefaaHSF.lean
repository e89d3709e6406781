
/- Walks: HaveSameForm. -/
import Derived.Test.YtbpdbimdefdefaaSame3
namespace Go.Proofs.Ytbpdbimdefdefaa
open Go.RowKit

noncomputable def hsM (x y : AlgebraM) : Bool := (smallB x && smallB y) && eqC (canA x) (canA y)
def hsOk (x y : AlgebraM) : Bool := smallB x && smallB y

end Go.Proofs.Ytbpdbimdefdefaa
