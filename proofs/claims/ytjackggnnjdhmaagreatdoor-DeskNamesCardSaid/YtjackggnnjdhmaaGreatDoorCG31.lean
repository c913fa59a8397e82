import Derived.Test.YtjackggnnjdhmaaGreatDoorCG24
import Derived.KernelRfl
namespace Go.Proofs.YtjackggnnjdhmaaGreatDoor
open Go.Ab
theorem k52g : Picks Tryz.prog 217 (p 8 0) 4 29 (spH n52x29 S52x29) fun h => h = spH n52x33 S52x33 := partR_t (runU_ok 217) (by kernel_rfl : partR (runU 217) (p 8 0) true 3 29 n52x29 S52x29 n52x33 S52x33 = true)
end Go.Proofs.YtjackggnnjdhmaaGreatDoor
