import Derived.Test.YthechbbdjabljaaGreatDoorAG45
open Go.Proofs.Tryz renaming prog->aa
namespace Go.Proofs.YthechbbdjabljaaGreatDoor
open Go
set_option maxRecDepth 100000
theorem agp:(Rows.auditMeansRow.inPlace==aa.inPlace 3)=true:=by unfold Program.inPlace;rw[wJ];kernel_rfl
theorem kv:(Rows.auditMeansRow.unfollowed==aa.unfollowed 3)=true:=by unfold Program.unfollowed;rw[wJ];kernel_rfl
theorem anT:aa.unfollowed 3=true:=by have h:=eq_of_beq kv;exact h.symm.trans rfl
theorem ago:(Rows.auditMeansRow.recurses==aa.recurses 3)=true:=by unfold Program.recurses;rw[anT];rfl
theorem agn:(Rows.auditMeansRow.named==aa.varsNamed 3)=true:=by unfold Program.varsNamed;rw[wJ];kernel_rfl
theorem tO:aa.funcNamed Rows.auditMeansRow.func=some 3:=by kernel_rfl
theorem alq:(aac.any λg=>(aa.funcs[g]?).any Func.goes)=false:=by kernel_rfl
theorem alp:aa.funcs.any Func.goes=false:=by kernel_rfl
theorem amq:aa.goes 3=false:=by unfold Program.goes;rw[wJ,alq,alp,Bool.and_false];rfl
theorem ahK:Tryz.pinned.checked.prog=aa:=rfl
theorem agE:Rows.auditMeansRow.start=.entering:=rfl
theorem agr:false=Rows.auditMeansRow.goesBy Tryz.pinned.checked.prog:=by unfold OpenClaim.goesBy Program.goesAt Program.goesFrom;rw[ahK,tO,agE,Option.any_some,amq];rfl
end Go.Proofs.YthechbbdjabljaaGreatDoor
