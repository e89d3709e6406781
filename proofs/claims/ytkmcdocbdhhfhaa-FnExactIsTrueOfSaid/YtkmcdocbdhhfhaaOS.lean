
/- How arguments of the harness's struct types open to shapes. Printed by genproof3.py. -/
import Derived.Test.YtkmcdocbdhhfhaaHLabStep
import Derived.Test.YtkmcdocbdhhfhaaHEntry
import Derived.Test.YtkmcdocbdhhfhaaHLab
namespace Go.Proofs.Ytkmcdocbdhhfhaa
open Go.ChangeShapes Go.WideShapes Go.ChangeAt Go.RowKit Go.Joins Go.Deep
theorem os_Op {H : Type} {enc : TypeId × Value → H} {w : World} : OpensS enc Try.prog w 58 shOp :=
  opensS_struct Try.underlying58 (by kernel_rfl) (opensF_cons rfl (opensS_int Try.underlying3 (by kernel_rfl)) (opensF_last rfl (opensS_ints Try.underlying25 (by kernel_rfl) Try.underlying3 (by kernel_rfl))))
theorem os_Algebra {H : Type} {enc : TypeId × Value → H} {w : World} : OpensS enc Try.prog w 24 shAlgebra :=
  opensS_struct Try.underlying24 (by kernel_rfl) (opensF_cons rfl (opensS_int Try.underlying3 (by kernel_rfl)) (opensF_last rfl (opensS_rows (by decide) Try.underlying22 (os_Op) (by kernel_rfl))))
theorem os_Identity {H : Type} {enc : TypeId × Value → H} {w : World} : OpensS enc Try.prog w 27 shIdentity :=
  opensS_struct Try.underlying27 (by kernel_rfl) (opensF_cons rfl (opensS_ints Try.underlying25 (by kernel_rfl) Try.underlying3 (by kernel_rfl)) (opensF_last rfl (opensS_ints Try.underlying25 (by kernel_rfl) Try.underlying3 (by kernel_rfl))))
theorem os_Fact {H : Type} {enc : TypeId × Value → H} {w : World} : OpensS enc Try.prog w 29 shFact :=
  opensS_struct Try.underlying29 (by kernel_rfl) (opensF_cons rfl (opensS_int Try.underlying3 (by kernel_rfl)) (opensF_cons rfl (os_Identity) (opensF_last rfl (opensS_ints Try.underlying25 (by kernel_rfl) Try.underlying3 (by kernel_rfl)))))
end Go.Proofs.Ytkmcdocbdhhfhaa
