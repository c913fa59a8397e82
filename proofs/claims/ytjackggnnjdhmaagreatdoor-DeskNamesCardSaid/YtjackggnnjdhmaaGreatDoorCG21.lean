import Derived.Test.YtjackggnnjdhmaaGreatDoorCG19
import Derived.KernelRfl
namespace Go.Proofs.YtjackggnnjdhmaaGreatDoor
open Go.Ab
theorem m51_ok : EntMOK Tryz.prog 215 m51 := entMR_ok (runOK_grun ovT_ok 60 215) (by kernel_rfl)
end Go.Proofs.YtjackggnnjdhmaaGreatDoor
