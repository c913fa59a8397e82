import Derived.Test.YtjackggnnjdhmaaGreatDoorCG24
import Derived.KernelRfl
namespace Go.Proofs.YtjackggnnjdhmaaGreatDoor
open Go.Ab
theorem m44_ok : EntMOK Tryz.prog 160 m44 := entMR_ok (runU_ok 160) (by kernel_rfl)
end Go.Proofs.YtjackggnnjdhmaaGreatDoor
