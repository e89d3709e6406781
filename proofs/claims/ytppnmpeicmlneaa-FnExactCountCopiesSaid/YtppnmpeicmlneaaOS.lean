
/- How arguments of the harness's struct types open to shapes. Printed by genproof3.py. -/
import Derived.Test.YtppnmpeicmlneaaHLabStep
import Derived.Test.YtppnmpeicmlneaaHEntry
import Derived.Test.YtppnmpeicmlneaaHLab
namespace Go.Proofs.Ytppnmpeicmlneaa
open Go.ChangeShapes Go.WideShapes Go.ChangeAt Go.RowKit Go.Joins Go.Deep
theorem os_Op {H : Type} {enc : TypeId × Value → H} {w : World} : OpensS enc Try.prog w 128 shOp :=
  opensS_struct Try.underlying128 (by kernel_rfl) (opensF_cons rfl (opensS_int Try.underlying3 (by kernel_rfl)) (opensF_last rfl (opensS_ints Try.underlying22 (by kernel_rfl) Try.underlying3 (by kernel_rfl))))
theorem os_Algebra {H : Type} {enc : TypeId × Value → H} {w : World} : OpensS enc Try.prog w 52 shAlgebra :=
  opensS_struct Try.underlying52 (by kernel_rfl) (opensF_cons rfl (opensS_int Try.underlying3 (by kernel_rfl)) (opensF_last rfl (opensS_rows (by decide) Try.underlying50 (os_Op) (by kernel_rfl))))
theorem os_Entry {H : Type} {enc : TypeId × Value → H} {w : World} : OpensS enc Try.prog w 115 shEntry :=
  opensS_struct Try.underlying115 (by kernel_rfl) (opensF_cons rfl (opensS_str Try.underlying9 (by kernel_rfl)) (opensF_last rfl (os_Algebra)))
theorem os_Identity {H : Type} {enc : TypeId × Value → H} {w : World} : OpensS enc Try.prog w 24 shIdentity :=
  opensS_struct Try.underlying24 (by kernel_rfl) (opensF_cons rfl (opensS_ints Try.underlying22 (by kernel_rfl) Try.underlying3 (by kernel_rfl)) (opensF_last rfl (opensS_ints Try.underlying22 (by kernel_rfl) Try.underlying3 (by kernel_rfl))))
theorem os_Fact {H : Type} {enc : TypeId × Value → H} {w : World} : OpensS enc Try.prog w 26 shFact :=
  opensS_struct Try.underlying26 (by kernel_rfl) (opensF_cons rfl (opensS_int Try.underlying3 (by kernel_rfl)) (opensF_cons rfl (os_Identity) (opensF_last rfl (opensS_ints Try.underlying22 (by kernel_rfl) Try.underlying3 (by kernel_rfl)))))
theorem os_LabStep {H : Type} {enc : TypeId × Value → H} {w : World} : OpensS enc Try.prog w 28 shLabStep :=
  opensS_struct Try.underlying28 (by kernel_rfl) (opensF_cons rfl (opensS_int Try.underlying3 (by kernel_rfl)) (opensF_cons rfl (opensS_str Try.underlying9 (by kernel_rfl)) (opensF_cons rfl (os_Fact) (opensF_cons rfl (opensS_ints Try.underlying22 (by kernel_rfl) Try.underlying3 (by kernel_rfl)) (opensF_cons rfl (opensS_int Try.underlying3 (by kernel_rfl)) (opensF_last rfl (opensS_int Try.underlying3 (by kernel_rfl))))))))
end Go.Proofs.Ytppnmpeicmlneaa
