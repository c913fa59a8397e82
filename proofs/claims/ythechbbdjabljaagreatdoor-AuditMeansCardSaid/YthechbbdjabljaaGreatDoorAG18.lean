import Derived.Test.YthechbbdjabljaaGreatDoorAG17
import Derived.KernelRfl
namespace Go.Proofs.YthechbbdjabljaaGreatDoor
open Go.Ab
theorem al3:V6 Tryz.prog 91 m2:=Tc (LL 91) (by kernel_rfl)
theorem alb:V6 Tryz.prog 91 m40:=Tc (LL 91) (by kernel_rfl)
theorem al1:V6 Tryz.prog 93 m5:=Tc (LL 93) (by kernel_rfl)
theorem al2:V6 Tryz.prog 92 m3:=Tc (LL 92) (by kernel_rfl)
theorem ald:V6 Tryz.prog 135 Kl:=Tc (LL 135) (by kernel_rfl)
end Go.Proofs.YthechbbdjabljaaGreatDoor
