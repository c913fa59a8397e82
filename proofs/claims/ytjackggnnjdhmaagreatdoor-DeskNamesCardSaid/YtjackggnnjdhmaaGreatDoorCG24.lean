import Derived.Test.YtjackggnnjdhmaaGreatDoorCG20
import Derived.Test.YtjackggnnjdhmaaGreatDoorCG21
import Derived.Test.YtjackggnnjdhmaaGreatDoorCG22
import Derived.Test.YtjackggnnjdhmaaGreatDoorCG23
import Derived.KernelRfl
namespace Go.Proofs.YtjackggnnjdhmaaGreatDoor
open Go.Ab
noncomputable def ovU : Ovr := (ovAdd 215 (eMemoM [m42, m51] noRun) (ovAdd 432 (eMemoM [m47, m49] noRun) ovT))
theorem ovU_ok : OvrOK Tryz.prog ovU := (ovAdd_ok (eMemoM_ok (mm_cons m42_ok (mm_one m51_ok)) (noRun_ok 215)) (ovAdd_ok (eMemoM_ok (mm_cons m47_ok (mm_one m49_ok)) (noRun_ok 432)) ovT_ok))
noncomputable def runU (f : FuncId) : RunT := grun Tryz.prog slotsOf ovU 60 f
theorem runU_ok (f : FuncId) : RunOK Tryz.prog f (runU f) := runOK_grun ovU_ok 60 f
end Go.Proofs.YtjackggnnjdhmaaGreatDoor
