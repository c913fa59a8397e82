import Derived.Test.YthechbbdjabljaaGreatDoorAG49
namespace Go.Proofs.YthechbbdjabljaaGreatDoor
open Go
theorem anW:∀os tape,(DataW.laidRun Tryz.prog (varsWorld Tryz.prog 400 (varsId Tryz.prog) os tape).memory 8 (FG.map (·.1))).map (λx=>decide x.2.Nodup&&laidRowsB Tryz.prog (varsWorld Tryz.prog 400 (varsId Tryz.prog) os tape).memory x.2)=some true:=λ_ _=>by kernel_rfl
theorem tie:Tryz.prog.laidByTextLater FG [.data,.data,.data,.data] true:=Program.laidByTextLater_by_run 400 8 an4 an3 an2 an1 an0 anZ anY anX anW
theorem aep:Rows.auditMeansRow.laidByTextAt .later Tryz.pinned [.data,.data,.data,.data] true:=OpenClaim.laidByTextAt_later rfl rfl tie (by kernel_rfl)
end Go.Proofs.YthechbbdjabljaaGreatDoor
