import Derived.Test.YtjackggnnjdhmaaGreatDoorCG24
import Derived.KernelRfl
namespace Go.Proofs.YtjackggnnjdhmaaGreatDoor
open Go.Ab
theorem k52i : Picks Tryz.prog 217 (p 8 0) 5 37 (spH n52x37 S52x37) fun h => h = spH n52x42 S52x42 := partR_t (runU_ok 217) (by kernel_rfl : partR (runU 217) (p 8 0) true 4 37 n52x37 S52x37 n52x42 S52x42 = true)
end Go.Proofs.YtjackggnnjdhmaaGreatDoor
