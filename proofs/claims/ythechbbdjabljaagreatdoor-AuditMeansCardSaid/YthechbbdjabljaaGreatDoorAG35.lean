import Derived.Test.YthechbbdjabljaaGreatDoorAG25
import Derived.KernelRfl
namespace Go.Proofs.YthechbbdjabljaaGreatDoor
open Go.Ab
theorem aov:W4 Tryz.prog 141 (p 8 0) 4 43 (XG yB yc) λh=>h=XG yC yd:=OG (QB 141) (by kernel_rfl:Rf (Qr 141) (p 8 0) true 3 43 yB yc yC yd=true)
end Go.Proofs.YthechbbdjabljaaGreatDoor
