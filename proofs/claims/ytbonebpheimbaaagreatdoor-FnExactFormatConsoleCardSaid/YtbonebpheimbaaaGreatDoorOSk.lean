
/- How consoles open to shapes. -/
import Derived.Test.YtbonebpheimbaaaGreatDoorOS
import Derived.Test.YtbonebpheimbaaaGreatDoorHLog
namespace Go.Proofs.YtbonebpheimbaaaGreatDoor
open Go.ChangeShapes Go.WideShapes Go.ChangeAt Go.RowKit Go.Joins Go.Deep
theorem os_Log {H : Type} {enc : TypeId × Value → H} {w : World} : OpensS enc Tryz.prog w 29 shLog :=
  opensS_struct Tryz.underlying29 (by kernel_rfl) (opensF_cons rfl (opensS_str Tryz.underlying9 (by kernel_rfl)) (opensF_cons rfl (opensS_str Tryz.underlying9 (by kernel_rfl)) (opensF_last rfl (opensS_int Tryz.underlying3 (by kernel_rfl)))))
theorem os_Console {H : Type} {enc : TypeId × Value → H} {w : World} : OpensS enc Tryz.prog w 31 shConsole :=
  opensS_struct Tryz.underlying31 (by kernel_rfl) (opensF_cons rfl (os_Lab) (opensF_last rfl (os_Log)))
end Go.Proofs.YtbonebpheimbaaaGreatDoor
