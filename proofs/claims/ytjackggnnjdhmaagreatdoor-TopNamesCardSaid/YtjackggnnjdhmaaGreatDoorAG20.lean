import Derived.Test.YtjackggnnjdhmaaGreatDoorAG17
import Derived.KernelRfl
namespace Go.Proofs.YtjackggnnjdhmaaGreatDoor
open Go.Ab
theorem m54_ok : EntMOK Tryz.prog 432 m54 := entMR_ok (runOK_grun ovT_ok 60 432) (by kernel_rfl)
end Go.Proofs.YtjackggnnjdhmaaGreatDoor
