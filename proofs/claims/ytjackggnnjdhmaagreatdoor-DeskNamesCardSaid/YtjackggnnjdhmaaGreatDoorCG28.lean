import Derived.Test.YtjackggnnjdhmaaGreatDoorCG24
import Derived.KernelRfl
namespace Go.Proofs.YtjackggnnjdhmaaGreatDoor
open Go.Ab
theorem k52d : Picks Tryz.prog 217 (p 8 0) 4 16 (spH n52x16 S52x16) fun h => h = spH n52x20 S52x20 := partR_t (runU_ok 217) (by kernel_rfl : partR (runU 217) (p 8 0) true 3 16 n52x16 S52x16 n52x20 S52x20 = true)
end Go.Proofs.YtjackggnnjdhmaaGreatDoor
