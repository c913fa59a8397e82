import Derived.Test.YthechbbdjabljaaGreatDoorAG25
import Derived.KernelRfl
namespace Go.Proofs.YthechbbdjabljaaGreatDoor
open Go.Ab
theorem ak_:V6 Tryz.prog 59 m44:=Tc (QB 59) (by kernel_rfl)
end Go.Proofs.YthechbbdjabljaaGreatDoor
