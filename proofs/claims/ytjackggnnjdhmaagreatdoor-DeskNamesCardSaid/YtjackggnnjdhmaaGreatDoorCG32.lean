import Derived.Test.YtjackggnnjdhmaaGreatDoorCG24
import Derived.KernelRfl
namespace Go.Proofs.YtjackggnnjdhmaaGreatDoor
open Go.Ab
theorem k52h : Picks Tryz.prog 217 (p 8 0) 4 33 (spH n52x33 S52x33) fun h => h = spH n52x37 S52x37 := partR_t (runU_ok 217) (by kernel_rfl : partR (runU 217) (p 8 0) true 3 33 n52x33 S52x33 n52x37 S52x37 = true)
end Go.Proofs.YtjackggnnjdhmaaGreatDoor
