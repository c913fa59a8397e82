import Derived.Test.YtjackggnnjdhmaaGreatDoorCG36
import Derived.Test.YtjackggnnjdhmaaGreatDoorCG37
import Derived.KernelRfl
namespace Go.Proofs.YtjackggnnjdhmaaGreatDoor
open Go.Ab
noncomputable def ovV : Ovr := (ovAdd 160 (eMemoM [m44, m52] noRun) ovU)
theorem ovV_ok : OvrOK Tryz.prog ovV := (ovAdd_ok (eMemoM_ok (mm_cons m44_ok (mm_one m52_ok)) (noRun_ok 160)) ovU_ok)
theorem m45_ok : EntMOK Tryz.prog 100 m45 := entMR_ok (runOK_grun ovV_ok 60 100) (by kernel_rfl)
theorem m53_ok : EntMOK Tryz.prog 100 m53 := entMR_ok (runOK_grun ovV_ok 60 100) (by kernel_rfl)
end Go.Proofs.YtjackggnnjdhmaaGreatDoor
