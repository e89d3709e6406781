
/- How arguments of the harness's struct types open to shapes. Printed by genproof3.py. -/
import Derived.Test.YtidjocikbmkjbaaGreatHLabStep
import Derived.Test.YtidjocikbmkjbaaGreatHEntry
import Derived.Test.YtidjocikbmkjbaaGreatHLab
namespace Go.Proofs.YtidjocikbmkjbaaGreat
open Go.ChangeShapes Go.WideShapes Go.ChangeAt Go.RowKit Go.Joins Go.Deep
theorem os_Op {H : Type} {enc : TypeId × Value → H} {w : World} : OpensS enc Tryz.prog w 64 shOp :=
  opensS_struct Tryz.underlying64 (by kernel_rfl) (opensF_cons rfl (opensS_int Tryz.underlying3 (by kernel_rfl)) (opensF_last rfl (opensS_ints Tryz.underlying25 (by kernel_rfl) Tryz.underlying3 (by kernel_rfl))))
theorem os_Algebra {H : Type} {enc : TypeId × Value → H} {w : World} : OpensS enc Tryz.prog w 24 shAlgebra :=
  opensS_struct Tryz.underlying24 (by kernel_rfl) (opensF_cons rfl (opensS_int Tryz.underlying3 (by kernel_rfl)) (opensF_last rfl (opensS_rows (by decide) Tryz.underlying22 (os_Op) (by kernel_rfl))))
theorem os_Identity {H : Type} {enc : TypeId × Value → H} {w : World} : OpensS enc Tryz.prog w 27 shIdentity :=
  opensS_struct Tryz.underlying27 (by kernel_rfl) (opensF_cons rfl (opensS_ints Tryz.underlying25 (by kernel_rfl) Tryz.underlying3 (by kernel_rfl)) (opensF_last rfl (opensS_ints Tryz.underlying25 (by kernel_rfl) Tryz.underlying3 (by kernel_rfl))))
theorem os_Fact {H : Type} {enc : TypeId × Value → H} {w : World} : OpensS enc Tryz.prog w 29 shFact :=
  opensS_struct Tryz.underlying29 (by kernel_rfl) (opensF_cons rfl (opensS_int Tryz.underlying3 (by kernel_rfl)) (opensF_cons rfl (os_Identity) (opensF_last rfl (opensS_ints Tryz.underlying25 (by kernel_rfl) Tryz.underlying3 (by kernel_rfl)))))
end Go.Proofs.YtidjocikbmkjbaaGreat
