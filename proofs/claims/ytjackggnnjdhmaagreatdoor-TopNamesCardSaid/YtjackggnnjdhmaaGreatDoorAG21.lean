import Derived.Test.YtjackggnnjdhmaaGreatDoorAG13
import Derived.Test.YtjackggnnjdhmaaGreatDoorAG17
import Derived.Test.YtjackggnnjdhmaaGreatDoorAG18
import Derived.Test.YtjackggnnjdhmaaGreatDoorAG19
import Derived.Test.YtjackggnnjdhmaaGreatDoorAG20
import Derived.KernelRfl
namespace Go.Proofs.YtjackggnnjdhmaaGreatDoor
open Go.Ab
noncomputable def ovU : Ovr := ovAdd 215 (eMemoM [m42, m51, m56] noRun) (ovAdd 432 (eMemoM [m46, m47, m54] noRun) ovT)
theorem ovU_ok : OvrOK Tryz.prog ovU := ovAdd_ok (eMemoM_ok (mm_cons m42_ok (mm_cons m51_ok (mm_one m56_ok))) (noRun_ok 215)) (ovAdd_ok (eMemoM_ok (mm_cons m46_ok (mm_cons m47_ok (mm_one m54_ok))) (noRun_ok 432)) ovT_ok)
noncomputable def runU (f : FuncId) : RunT := grun Tryz.prog slotsOf ovU 60 f
theorem runU_ok (f : FuncId) : RunOK Tryz.prog f (runU f) := runOK_grun ovU_ok 60 f
theorem m44_ok : EntMOK Tryz.prog 100 m44 := entMR_ok (runOK_grun ovU_ok 60 100) (by kernel_rfl)
theorem mCr_ok : EntMOK Tryz.prog 220 mCr := entMR_ok (runU_ok 220) (by kernel_rfl)
noncomputable def ovCr : Ovr := ovAdd 220 (eMemoM [mCr] noRun) ovU
theorem ovCr_ok : OvrOK Tryz.prog ovCr := ovAdd_ok (eMemoM_ok (mm_one mCr_ok) (noRun_ok 220)) ovU_ok
end Go.Proofs.YtjackggnnjdhmaaGreatDoor
