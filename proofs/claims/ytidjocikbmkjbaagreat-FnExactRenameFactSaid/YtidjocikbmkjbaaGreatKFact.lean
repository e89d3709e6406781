
/- The harness's marks on []Fact and Lab. -/
import Derived.Test.YtidjocikbmkjbaaGreatHOp
import Derived.Test.YtidjocikbmkjbaaGreatHLab
namespace Go.Proofs.YtidjocikbmkjbaaGreat
open Go.RowKit

def mcFact (x : FactM) : Nat := 1 + x.2.1.1.length + x.2.1.2.length + x.2.2.length
def mqFact (k : Int) (x : FactM) : FactM := (k, (nums (k + 1) x.2.1.1.length, nums (k + 1 + x.2.1.1.length) x.2.1.2.length), nums (k + 1 + x.2.1.1.length + x.2.1.2.length) x.2.2.length)
def msLab (x : LabM) : Nat := msAlgebra x.2.1 + cntS mcFact x.2.2.1
def mqLab (k : Int) (x : LabM) : LabM := (x.1, mqAlgebra k x.2.1, mkL mqFact mcFact (k + msAlgebra x.2.1) x.2.2.1, x.2.2.2)

end Go.Proofs.YtidjocikbmkjbaaGreat
