import Derived.Test.YthechbbdjabljaaGreatDoorRows
import Derived.LaidByTextLater
import Derived.SevenTiedAt
noncomputable section
namespace Go.Proofs.YthechbbdjabljaaGreatDoor
open Go
abbrev FG:List (String×DataW Unit):=Rows.auditMeansRow.laid
theorem an4:Tryz.prog.worded (varsWordLater true)=true:=by kernel_rfl
theorem an3:Tryz.prog.worded (varsWordLater !true)=false:=by kernel_rfl
theorem an2:Tryz.prog.worded rootWordLater=true:=by kernel_rfl
theorem an1:FG.map (λx=>Tryz.prog.kindOfLater x.1)=([.data,.data,.data,.data]:List LaidKind).map some:=by kernel_rfl
theorem an0:(Tryz.prog.funcNamed "gosem.cut.vars").isSome=true:=by kernel_rfl
theorem anZ:varsNamedLaterB Tryz.prog (varsId Tryz.prog) FG=true:=by kernel_rfl
end Go.Proofs.YthechbbdjabljaaGreatDoor
