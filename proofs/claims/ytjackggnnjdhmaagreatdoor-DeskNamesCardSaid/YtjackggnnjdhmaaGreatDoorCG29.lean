import Derived.Test.YtjackggnnjdhmaaGreatDoorCG24
import Derived.KernelRfl
namespace Go.Proofs.YtjackggnnjdhmaaGreatDoor
open Go.Ab
theorem k52e : Picks Tryz.prog 217 (p 8 0) 4 20 (spH n52x20 S52x20) fun h => h = spH n52x24 S52x24 := partR_t (runU_ok 217) (by kernel_rfl : partR (runU 217) (p 8 0) true 3 20 n52x20 S52x20 n52x24 S52x24 = true)
end Go.Proofs.YtjackggnnjdhmaaGreatDoor
