import Derived.Test.YthechbbdjabljaaGreatDoorAG20
import Derived.KernelRfl
namespace Go.Proofs.YthechbbdjabljaaGreatDoor
open Go.Ab
theorem ala:V6 Tryz.prog 139 m43:=Tc (Yl FX 60 139) (by kernel_rfl)
end Go.Proofs.YthechbbdjabljaaGreatDoor
