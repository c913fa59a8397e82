import Derived.Test.YtjackggnnjdhmaaGreatDoorAG21
import Derived.KernelRfl
namespace Go.Proofs.YtjackggnnjdhmaaGreatDoor
open Go.Ab
theorem m43_ok : EntMOK Tryz.prog 99 m43 := entMR_ok (runOK_grun ovU_ok 60 99) (by kernel_rfl)
end Go.Proofs.YtjackggnnjdhmaaGreatDoor
