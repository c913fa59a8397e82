import Derived.Test.YthechbbdjabljaaGreatDoorAG20
import Derived.KernelRfl
namespace Go.Proofs.YthechbbdjabljaaGreatDoor
open Go.Ab
theorem ak8:V6 Tryz.prog 342 m46:=Tc (Yl FX 60 342) (by kernel_rfl)
end Go.Proofs.YthechbbdjabljaaGreatDoor
