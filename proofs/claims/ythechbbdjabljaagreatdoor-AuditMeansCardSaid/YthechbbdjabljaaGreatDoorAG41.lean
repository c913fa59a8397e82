import Derived.Test.YthechbbdjabljaaGreatDoorAG8
import Derived.Test.YthechbbdjabljaaGreatDoorAG40
import Derived.KernelRfl
set_option linter.unusedVariables false
noncomputable section
namespace Go.Proofs.YthechbbdjabljaaGreatDoor
open Go.Ab
def ovX:Yb:=(XT 15 (Rj [m53,m55] U0) oH)
theorem akP:Xk Tryz.prog ovX:=(XI (PQ (Gc ak1 (PB ak0)) (UJ 15)) FX)
def isT(v:AV)(_:EH):Bool:=Bh true v
theorem an8:sb 0 Ue ⟨.e,0⟩ (λh=>WX Tryz.prog slotsOf ovX 60 5 [] h isT)=true:=by kernel_rfl
theorem s5{h:Heap}{Q:fx}(L:qG h)(hQ:Q (.bool true) h):AC Tryz.prog 5 [] h Q:=by obtain⟨e,H,hr⟩:=kp Ue 0 _ [] _ Gm an8;exact afv (gs:=Ue) (v:=.bool true) (F9 akP (by simpa using H) (λx e' h' _ hx=>rM hx) hr) (λ_ _ _ h=>h) (λ_ _ _ h=>h) L hQ
end Go.Proofs.YthechbbdjabljaaGreatDoor
