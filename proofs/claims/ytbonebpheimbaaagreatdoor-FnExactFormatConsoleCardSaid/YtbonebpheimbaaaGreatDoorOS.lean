
/- How arguments of the harness's struct types open to shapes. Printed by genproof3.py. -/
import Derived.Test.YtbonebpheimbaaaGreatDoorHLabStep
import Derived.Test.YtbonebpheimbaaaGreatDoorHEntry
import Derived.Test.YtbonebpheimbaaaGreatDoorHLab
namespace Go.Proofs.YtbonebpheimbaaaGreatDoor
open Go.ChangeShapes Go.WideShapes Go.ChangeAt Go.RowKit Go.Joins Go.Deep
theorem os_Op {H : Type} {enc : TypeId × Value → H} {w : World} : OpensS enc Tryz.prog w 120 shOp :=
  opensS_struct Tryz.underlying120 (by kernel_rfl) (opensF_cons rfl (opensS_int Tryz.underlying3 (by kernel_rfl)) (opensF_last rfl (opensS_ints Tryz.underlying58 (by kernel_rfl) Tryz.underlying3 (by kernel_rfl))))
theorem os_Algebra {H : Type} {enc : TypeId × Value → H} {w : World} : OpensS enc Tryz.prog w 24 shAlgebra :=
  opensS_struct Tryz.underlying24 (by kernel_rfl) (opensF_cons rfl (opensS_int Tryz.underlying3 (by kernel_rfl)) (opensF_last rfl (opensS_rows (by decide) Tryz.underlying22 (os_Op) (by kernel_rfl))))
theorem os_Identity {H : Type} {enc : TypeId × Value → H} {w : World} : OpensS enc Tryz.prog w 90 shIdentity :=
  opensS_struct Tryz.underlying90 (by kernel_rfl) (opensF_cons rfl (opensS_ints Tryz.underlying58 (by kernel_rfl) Tryz.underlying3 (by kernel_rfl)) (opensF_last rfl (opensS_ints Tryz.underlying58 (by kernel_rfl) Tryz.underlying3 (by kernel_rfl))))
theorem os_Fact {H : Type} {enc : TypeId × Value → H} {w : World} : OpensS enc Tryz.prog w 92 shFact :=
  opensS_struct Tryz.underlying92 (by kernel_rfl) (opensF_cons rfl (opensS_int Tryz.underlying3 (by kernel_rfl)) (opensF_cons rfl (os_Identity) (opensF_last rfl (opensS_ints Tryz.underlying58 (by kernel_rfl) Tryz.underlying3 (by kernel_rfl)))))
theorem os_Lab {H : Type} {enc : TypeId × Value → H} {w : World} : OpensS enc Tryz.prog w 27 shLab :=
  opensS_struct Tryz.underlying27 (by kernel_rfl) (opensF_cons rfl (opensS_bool Tryz.underlying4 (by kernel_rfl)) (opensF_cons rfl (os_Algebra) (opensF_cons rfl (opensS_rows (by decide) Tryz.underlying25 (os_Fact) (by kernel_rfl)) (opensF_last rfl (opensS_int Tryz.underlying3 (by kernel_rfl))))))
end Go.Proofs.YtbonebpheimbaaaGreatDoor
