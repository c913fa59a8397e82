import Derived.Test.YtjackggnnjdhmaaGreatDoorAG21
import Derived.KernelRfl
namespace Go.Proofs.YtjackggnnjdhmaaGreatDoor
open Go.Ab
theorem m52_ok : EntMOK Tryz.prog 100 m52 := entMR_ok (runOK_grun ovCr_ok 60 100) (by kernel_rfl)
end Go.Proofs.YtjackggnnjdhmaaGreatDoor
