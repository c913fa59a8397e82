import Derived.Test.YthechbbdjabljaaGreatDoorAG25
import Derived.KernelRfl
namespace Go.Proofs.YthechbbdjabljaaGreatDoor
open Go.Ab
theorem aow:W4 Tryz.prog 141 (p 8 0) 5 38 (XG yA yb) λh=>h=XG yB yc:=OG (QB 141) (by kernel_rfl:Rf (Qr 141) (p 8 0) true 4 38 yA yb yB yc=true)
end Go.Proofs.YthechbbdjabljaaGreatDoor
