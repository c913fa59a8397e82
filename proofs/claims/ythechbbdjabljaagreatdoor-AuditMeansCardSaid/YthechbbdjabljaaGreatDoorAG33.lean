import Derived.Test.YthechbbdjabljaaGreatDoorAG25
import Derived.KernelRfl
namespace Go.Proofs.YthechbbdjabljaaGreatDoor
open Go.Ab
theorem aox:W4 Tryz.prog 141 (p 8 0) 4 34 (XG yz ya) λh=>h=XG yA yb:=OG (QB 141) (by kernel_rfl:Rf (Qr 141) (p 8 0) true 3 34 yz ya yA yb=true)
end Go.Proofs.YthechbbdjabljaaGreatDoor
