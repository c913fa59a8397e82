import Derived.Test.YthechbbdjabljaaGreatDoorAG25
import Derived.KernelRfl
namespace Go.Proofs.YthechbbdjabljaaGreatDoor
open Go.Ab
theorem aoB:W4 Tryz.prog 141 (p 8 0) 4 17 (XG yu xX) λh=>h=XG yw xY:=OG (QB 141) (by kernel_rfl:Rf (Qr 141) (p 8 0) true 3 17 yu xX yw xY=true)
end Go.Proofs.YthechbbdjabljaaGreatDoor
