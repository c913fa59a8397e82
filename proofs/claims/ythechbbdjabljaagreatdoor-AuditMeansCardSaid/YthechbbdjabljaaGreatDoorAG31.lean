import Derived.Test.YthechbbdjabljaaGreatDoorAG25
import Derived.KernelRfl
namespace Go.Proofs.YthechbbdjabljaaGreatDoor
open Go.Ab
theorem aoz:W4 Tryz.prog 141 (p 8 0) 5 25 (XG yx xZ) λh=>h=XG yy x_:=OG (QB 141) (by kernel_rfl:Rf (Qr 141) (p 8 0) true 4 25 yx xZ yy x_=true)
end Go.Proofs.YthechbbdjabljaaGreatDoor
