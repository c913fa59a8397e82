import Derived.Test.YthechbbdjabljaaGreatDoorAG18
import Derived.Test.YthechbbdjabljaaGreatDoorAG19
import Derived.KernelRfl
noncomputable section
namespace Go.Proofs.YthechbbdjabljaaGreatDoor
open Go.Ab
theorem PB{f:FuncId}{x:XZ}(h:V6 Tryz.prog f x):∀y∈[x],V6 Tryz.prog f y:=by intro y hy;rw[List.mem_singleton]at hy;rw[hy];exact h
theorem Gc{f:FuncId}{x:XZ}{l:List XZ}(h:V6 Tryz.prog f x)(hl:∀y∈l,V6 Tryz.prog f y):∀y∈x::l,V6 Tryz.prog f y:=by intro y hy;rcases List.mem_cons.1 hy with rfl|hy;(·exact h);·exact hl y hy
def oH:Yb:=(XT 91 (Rj [m2,m40] U0) (XT 93 (Rj [m5] U0) (XT 135 (Rj [Kl] U0) (XT 92 (Rj [m3] U0) (XT 378 (Rj [Bn,m47,m49] U0) oG)))))
theorem FX:Xk Tryz.prog oH:=(XI (PQ (Gc al3 (PB alb)) (UJ 91)) (XI (PQ (PB al1) (UJ 93)) (XI (PQ (PB ald) (UJ 135)) (XI (PQ (PB al2) (UJ 92)) (XI (PQ (Gc ak9 (Gc ak7 (PB ak5))) (UJ 378)) aag)))))
end Go.Proofs.YthechbbdjabljaaGreatDoor
