import Derived.Test.YtjackggnnjdhmaaGreatDoorCG24
import Derived.KernelRfl
namespace Go.Proofs.YtjackggnnjdhmaaGreatDoor
open Go.Ab
theorem k52b : Picks Tryz.prog 217 (p 8 0) 5 5 (spH n52x5 S52x5) fun h => h = spH n52x10 S52x10 := partR_t (runU_ok 217) (by kernel_rfl : partR (runU 217) (p 8 0) true 4 5 n52x5 S52x5 n52x10 S52x10 = true)
end Go.Proofs.YtjackggnnjdhmaaGreatDoor
