import Derived.Test.YtjackggnnjdhmaaGreatDoorAG17
import Derived.KernelRfl
namespace Go.Proofs.YtjackggnnjdhmaaGreatDoor
open Go.Ab
theorem m46_ok : EntMOK Tryz.prog 432 m46 := entMR_ok (runOK_grun ovT_ok 60 432) (by kernel_rfl)
end Go.Proofs.YtjackggnnjdhmaaGreatDoor
