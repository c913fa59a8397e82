import Derived.Test.YthechbbdjabljaaGreatDoorAG48
namespace Go.Proofs.YthechbbdjabljaaGreatDoor
open Go
theorem anY:∀os tape,varsDone Tryz.prog 400 (varsId Tryz.prog) os tape=true:=λ_ _=>by kernel_rfl
theorem anX:∀os tape,(DataW.laidRun Tryz.prog (varsWorld Tryz.prog 400 (varsId Tryz.prog) os tape).memory 8 (FG.map (·.1))).map (·.1)=some FG:=λ_ _=>by kernel_rfl
end Go.Proofs.YthechbbdjabljaaGreatDoor
