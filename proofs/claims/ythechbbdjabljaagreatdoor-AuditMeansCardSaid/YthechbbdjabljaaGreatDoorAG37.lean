import Derived.Test.YthechbbdjabljaaGreatDoorAG9
import Derived.Test.YthechbbdjabljaaGreatDoorAG26
import Derived.Test.YthechbbdjabljaaGreatDoorAG27
import Derived.Test.YthechbbdjabljaaGreatDoorAG28
import Derived.Test.YthechbbdjabljaaGreatDoorAG29
import Derived.Test.YthechbbdjabljaaGreatDoorAG30
import Derived.Test.YthechbbdjabljaaGreatDoorAG31
import Derived.Test.YthechbbdjabljaaGreatDoorAG32
import Derived.Test.YthechbbdjabljaaGreatDoorAG33
import Derived.Test.YthechbbdjabljaaGreatDoorAG34
import Derived.Test.YthechbbdjabljaaGreatDoorAG35
import Derived.Test.YthechbbdjabljaaGreatDoorAG36
import Derived.KernelRfl
namespace Go.Proofs.YthechbbdjabljaaGreatDoor
open Go.Ab
theorem ou:W4 Tryz.prog 141 (p 8 0) 48 0 (XG Km.H.length (IG Km.H 0)) λh=>AC Tryz.prog 141 [p 8 0,.int .i64 48] h λv h'=>v=.bool false/\h'=XG xP xu:=(aoE.join (aoD.join (aoC.join (aoB.join (aoA.join (aoz.join (aoy.join (aox.join (aow.join (aov.join aou (by decide)) (by decide)) (by decide)) (by decide)) (by decide)) (by decide)) (by decide)) (by decide)) (by decide)) (by decide))
theorem ak3:V6 Tryz.prog 99 Km:=by have A:=ou;rw[ah7]at A;refine ajB (vL:=i 48) (n:=xP) (S:=xu) (c99 (p:=⟨8,0⟩) (t:=1000) (f:=0) (n:=48) (by decide) (by decide) (by decide) ?_) (by kernel_rfl);refine A.mono λh B=>AC.mono B λv h'⟨h1,h2⟩=>⟨h1,rfl,h2⟩
end Go.Proofs.YthechbbdjabljaaGreatDoor
