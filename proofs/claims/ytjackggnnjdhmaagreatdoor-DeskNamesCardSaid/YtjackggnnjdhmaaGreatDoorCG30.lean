import Derived.Test.YtjackggnnjdhmaaGreatDoorCG24
import Derived.KernelRfl
namespace Go.Proofs.YtjackggnnjdhmaaGreatDoor
open Go.Ab
theorem k52f : Picks Tryz.prog 217 (p 8 0) 5 24 (spH n52x24 S52x24) fun h => h = spH n52x29 S52x29 := partR_t (runU_ok 217) (by kernel_rfl : partR (runU 217) (p 8 0) true 4 24 n52x24 S52x24 n52x29 S52x29 = true)
end Go.Proofs.YtjackggnnjdhmaaGreatDoor
