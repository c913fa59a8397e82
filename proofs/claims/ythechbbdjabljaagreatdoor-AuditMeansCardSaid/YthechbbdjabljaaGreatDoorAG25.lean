import Derived.Test.YthechbbdjabljaaGreatDoorAG21
import Derived.Test.YthechbbdjabljaaGreatDoorAG22
import Derived.Test.YthechbbdjabljaaGreatDoorAG23
import Derived.Test.YthechbbdjabljaaGreatDoorAG24
import Derived.KernelRfl
noncomputable section
namespace Go.Proofs.YthechbbdjabljaaGreatDoor
open Go.Ab
def vU:Yb:=(XT 139 (Rj [m43,m50] U0) (XT 342 (Rj [m46,m48] U0) oH))
theorem rU:Xk Tryz.prog vU:=(XI (PQ (Gc ala (PB ak4)) (UJ 139)) (XI (PQ (Gc ak8 (PB ak6)) (UJ 342)) FX))
def Qr(f:FuncId):RunT:=WX Tryz.prog slotsOf vU 60 f
theorem QB(f:FuncId):Vd Tryz.prog f (Qr f):=Yl rU 60 f
end Go.Proofs.YthechbbdjabljaaGreatDoor
