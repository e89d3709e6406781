
/- Walks: HaveSameForm, in the reference. -/
import Derived.Test.YtbpdbimdefdefaaHSF
namespace Go.Proofs.Ytbpdbimdefdefaa
open Go.RowKit

end Go.Proofs.Ytbpdbimdefdefaa
