import Derived.Test.YthechbbdjabljaaGreatDoorAG39
import Derived.KernelRfl
noncomputable section
namespace Go.Proofs.YthechbbdjabljaaGreatDoor
open Go.Ab
def ovW:Yb:=(XT 59 (Rj [m44] U0) (XT 60 (Rj [m52] U0) vU))
theorem aaf:Xk Tryz.prog ovW:=(XI (PQ (PB ak_) (UJ 59)) (XI (PQ (PB ak2) (UJ 60)) rU))
theorem ak1:V6 Tryz.prog 15 m53:=Tc (Yl aaf 60 15) (by kernel_rfl)
theorem ak0:V6 Tryz.prog 15 m55:=Tc (Yl aaf 60 15) (by kernel_rfl)
end Go.Proofs.YthechbbdjabljaaGreatDoor
