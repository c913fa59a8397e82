import Derived.Test.YthechbbdjabljaaGreatDoorAG25
import Derived.KernelRfl
namespace Go.Proofs.YthechbbdjabljaaGreatDoor
open Go.Ab
theorem aoy:W4 Tryz.prog 141 (p 8 0) 4 30 (XG yy x_) λh=>h=XG yz ya:=OG (QB 141) (by kernel_rfl:Rf (Qr 141) (p 8 0) true 3 30 yy x_ yz ya=true)
end Go.Proofs.YthechbbdjabljaaGreatDoor
