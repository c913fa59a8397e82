import Derived.Test.YthechbbdjabljaaGreatDoorAG25
import Derived.KernelRfl
namespace Go.Proofs.YthechbbdjabljaaGreatDoor
open Go.Ab
theorem aoA:W4 Tryz.prog 141 (p 8 0) 4 21 (XG yw xY) λh=>h=XG yx xZ:=OG (QB 141) (by kernel_rfl:Rf (Qr 141) (p 8 0) true 3 21 yw xY yx xZ=true)
end Go.Proofs.YthechbbdjabljaaGreatDoor
