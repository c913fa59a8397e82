import Derived.Test.YtjackggnnjdhmaaGreatDoorCG19
import Derived.KernelRfl
namespace Go.Proofs.YtjackggnnjdhmaaGreatDoor
open Go.Ab
theorem m47_ok : EntMOK Tryz.prog 432 m47 := entMR_ok (runOK_grun ovT_ok 60 432) (by kernel_rfl)
end Go.Proofs.YtjackggnnjdhmaaGreatDoor
