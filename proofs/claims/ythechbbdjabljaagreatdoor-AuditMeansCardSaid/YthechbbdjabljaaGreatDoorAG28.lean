import Derived.Test.YthechbbdjabljaaGreatDoorAG25
import Derived.KernelRfl
namespace Go.Proofs.YthechbbdjabljaaGreatDoor
open Go.Ab
theorem aoC:W4 Tryz.prog 141 (p 8 0) 6 11 (XG yr xW) λh=>h=XG yu xX:=OG (QB 141) (by kernel_rfl:Rf (Qr 141) (p 8 0) true 5 11 yr xW yu xX=true)
end Go.Proofs.YthechbbdjabljaaGreatDoor
