import Derived.Test.YthechbbdjabljaaGreatDoorAG17
import Derived.KernelRfl
namespace Go.Proofs.YthechbbdjabljaaGreatDoor
open Go.Ab
theorem ak9:V6 Tryz.prog 378 Bn:=Tc (LL 378) (by kernel_rfl)
theorem ak7:V6 Tryz.prog 378 m47:=Tc (LL 378) (by kernel_rfl)
theorem ak5:V6 Tryz.prog 378 m49:=Tc (LL 378) (by kernel_rfl)
end Go.Proofs.YthechbbdjabljaaGreatDoor
