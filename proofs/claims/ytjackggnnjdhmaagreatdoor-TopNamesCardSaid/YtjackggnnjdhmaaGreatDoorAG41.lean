import Derived.Test.YtjackggnnjdhmaaGreatDoorAG21
import Derived.Test.YtjackggnnjdhmaaGreatDoorAG22
import Derived.Test.YtjackggnnjdhmaaGreatDoorAG23
import Derived.Test.YtjackggnnjdhmaaGreatDoorAG40
import Derived.KernelRfl
namespace Go.Proofs.YtjackggnnjdhmaaGreatDoor
open Go.Ab
noncomputable def ovW : Ovr := ovAdd 99 (eMemoM [m43] noRun) (ovAdd 100 (eMemoM [m44, m49, m52, m58] noRun) ovU)
theorem ovW_ok : OvrOK Tryz.prog ovW := ovAdd_ok (eMemoM_ok (mm_one m43_ok) (noRun_ok 99)) (ovAdd_ok (eMemoM_ok (mm_cons m44_ok (mm_cons m49_ok (mm_cons m52_ok (mm_one m58_ok)))) (noRun_ok 100)) ovU_ok)
theorem m59_ok : EntMOK Tryz.prog 20 m59 := entMR_ok (runOK_grun ovW_ok 60 20) (by kernel_rfl)
end Go.Proofs.YtjackggnnjdhmaaGreatDoor
