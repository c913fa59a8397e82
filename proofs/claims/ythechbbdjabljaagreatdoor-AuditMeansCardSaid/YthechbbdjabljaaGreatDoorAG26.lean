import Derived.Test.YthechbbdjabljaaGreatDoorAG25
import Derived.KernelRfl
namespace Go.Proofs.YthechbbdjabljaaGreatDoor
open Go.Ab
theorem aoE:W4 Tryz.prog 141 (p 8 0) 6 0 (XG Km.H.length (IG Km.H 0)) λh=>h=XG xO xt:=OG (QB 141) (by kernel_rfl:Rf (Qr 141) (p 8 0) true 5 0 Km.H.length (IG Km.H 0) xO xt=true)
end Go.Proofs.YthechbbdjabljaaGreatDoor
