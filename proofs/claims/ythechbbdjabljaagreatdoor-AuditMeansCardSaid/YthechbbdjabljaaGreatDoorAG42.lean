import Derived.Test.YthechbbdjabljaaGreatDoorRows
import Derived.KernelRfl
open Go.Proofs.Tryz renaming prog->aa
open List renaming range'->ad
namespace Go.Proofs.YthechbbdjabljaaGreatDoor
open Go
theorem yH{p:Nat->Bool}(b:Nat){k a:Nat}(h1:(ad a k).all p=true)(h2:(ad (a+k) b).all p=true):(ad a (k+b)).all p=true:=by rw[<-List.range'_append_1,List.all_append,h1,h2];rfl
theorem lo0:(ad 0 143).all (rowFine aa)=true:=by kernel_rfl
theorem lo1:(ad 143 143).all (rowFine aa)=true:=by kernel_rfl
theorem lo2:(ad 286 143).all (rowFine aa)=true:=by kernel_rfl
theorem lo3:(ad 429 143).all (rowFine aa)=true:=by kernel_rfl
theorem lo4:(ad 572 143).all (rowFine aa)=true:=by kernel_rfl
theorem loN:aa.types.size=715:=by kernel_rfl
theorem loG:aa.globals.all (λg=>decide (g.type<aa.types.size))=true:=by kernel_rfl
theorem loF:aa.funcs.all (λf=>f.params.all λt=>decide (t<aa.types.size))=true:=by kernel_rfl
theorem fD:laidOutB aa=true:=by unfold laidOutB;rw[loG,loF,loN,List.range_eq_range',Bool.and_true,Bool.and_true];exact yH 572 lo0 (yH 429 lo1 (yH 286 lo2 (yH 143 lo3 lo4)))
end Go.Proofs.YthechbbdjabljaaGreatDoor
