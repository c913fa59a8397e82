import Derived.Test.YtjackggnnjdhmaaGreatDoorCG24
import Derived.KernelRfl
namespace Go.Proofs.YtjackggnnjdhmaaGreatDoor
open Go.Ab
theorem k52j : Picks Tryz.prog 217 (p 8 0) 4 42 (spH n52x42 S52x42) fun h => h = spH n52x46 S52x46 := partR_t (runU_ok 217) (by kernel_rfl : partR (runU 217) (p 8 0) true 3 42 n52x42 S52x42 n52x46 S52x46 = true)
end Go.Proofs.YtjackggnnjdhmaaGreatDoor
