
/- How arguments of the harness's struct types open to shapes. Printed by genproof3.py. -/
import Derived.Test.YtbpdbimdefdefaaHEntry
namespace Go.Proofs.Ytbpdbimdefdefaa
open Go.ChangeShapes Go.WideShapes Go.ChangeAt Go.RowKit Go.Joins Go.Deep
theorem os_Op {H : Type} {enc : TypeId × Value → H} {w : World} : OpensS enc Try.prog w 105 shOp :=
  opensS_struct Try.underlying105 (by kernel_rfl) (opensF_cons rfl (opensS_int Try.underlying3 (by kernel_rfl)) (opensF_last rfl (opensS_ints Try.underlying75 (by kernel_rfl) Try.underlying3 (by kernel_rfl))))
theorem os_Algebra {H : Type} {enc : TypeId × Value → H} {w : World} : OpensS enc Try.prog w 33 shAlgebra :=
  opensS_struct Try.underlying33 (by kernel_rfl) (opensF_cons rfl (opensS_int Try.underlying3 (by kernel_rfl)) (opensF_last rfl (opensS_rows (by decide) Try.underlying31 (os_Op) (by kernel_rfl))))
theorem os_Entry {H : Type} {enc : TypeId × Value → H} {w : World} : OpensS enc Try.prog w 60 shEntry :=
  opensS_struct Try.underlying60 (by kernel_rfl) (opensF_cons rfl (opensS_str Try.underlying9 (by kernel_rfl)) (opensF_last rfl (os_Algebra)))
end Go.Proofs.Ytbpdbimdefdefaa
