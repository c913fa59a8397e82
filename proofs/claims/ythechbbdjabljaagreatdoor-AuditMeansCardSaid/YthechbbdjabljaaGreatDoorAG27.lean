import Derived.Test.YthechbbdjabljaaGreatDoorAG25
import Derived.KernelRfl
namespace Go.Proofs.YthechbbdjabljaaGreatDoor
open Go.Ab
theorem aoD:W4 Tryz.prog 141 (p 8 0) 5 6 (XG xO xt) λh=>h=XG yr xW:=OG (QB 141) (by kernel_rfl:Rf (Qr 141) (p 8 0) true 4 6 xO xt yr xW=true)
end Go.Proofs.YthechbbdjabljaaGreatDoor
