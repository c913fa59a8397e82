import Derived.Test.YthechbbdjabljaaGreatDoorAG37
import Derived.Test.YthechbbdjabljaaGreatDoorAG38
import Derived.KernelRfl
noncomputable section
namespace Go.Proofs.YthechbbdjabljaaGreatDoor
open Go.Ab
def ovV:Yb:=(XT 99 (Rj [Km] U0) vU)
theorem akQ:Xk Tryz.prog ovV:=(XI (PQ (PB ak3) (UJ 99)) rU)
theorem ak2:V6 Tryz.prog 60 m52:=Tc (Yl akQ 60 60) (by kernel_rfl)
end Go.Proofs.YthechbbdjabljaaGreatDoor
