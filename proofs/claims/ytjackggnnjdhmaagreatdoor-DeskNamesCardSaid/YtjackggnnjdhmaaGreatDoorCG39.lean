import Derived.Test.YtjackggnnjdhmaaGreatDoorCG24
import Derived.KernelRfl
namespace Go.Proofs.YtjackggnnjdhmaaGreatDoor
open Go.Ab
theorem m43_ok : EntMOK Tryz.prog 99 m43 := entMR_ok (runU_ok 99) (by kernel_rfl)
end Go.Proofs.YtjackggnnjdhmaaGreatDoor
