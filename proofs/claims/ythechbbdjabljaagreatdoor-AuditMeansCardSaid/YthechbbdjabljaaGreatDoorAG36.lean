import Derived.Test.YthechbbdjabljaaGreatDoorAG25
import Derived.KernelRfl
namespace Go.Proofs.YthechbbdjabljaaGreatDoor
open Go.Ab
theorem aou:W4 Tryz.prog 141 (p 8 0) 1 47 (XG yC yd) λh=>AC Tryz.prog 141 [p 8 0,.int .i64 48] h λv h'=>v=.bool false/\h'=XG xP xu:=jg (QB 141) (by kernel_rfl:Rf (Qr 141) (p 8 0) false 1 47 yC yd xP xu=true)
end Go.Proofs.YthechbbdjabljaaGreatDoor
