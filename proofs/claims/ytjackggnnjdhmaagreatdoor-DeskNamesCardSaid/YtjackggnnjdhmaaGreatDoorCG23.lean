import Derived.Test.YtjackggnnjdhmaaGreatDoorCG19
import Derived.KernelRfl
namespace Go.Proofs.YtjackggnnjdhmaaGreatDoor
open Go.Ab
theorem m49_ok : EntMOK Tryz.prog 432 m49 := entMR_ok (runOK_grun ovT_ok 60 432) (by kernel_rfl)
end Go.Proofs.YtjackggnnjdhmaaGreatDoor
