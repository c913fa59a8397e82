import Derived.Test.YtjackggnnjdhmaaGreatDoorCG24
import Derived.KernelRfl
namespace Go.Proofs.YtjackggnnjdhmaaGreatDoor
open Go.Ab
theorem k52c : Picks Tryz.prog 217 (p 8 0) 6 10 (spH n52x10 S52x10) fun h => h = spH n52x16 S52x16 := partR_t (runU_ok 217) (by kernel_rfl : partR (runU 217) (p 8 0) true 5 10 n52x10 S52x10 n52x16 S52x16 = true)
end Go.Proofs.YtjackggnnjdhmaaGreatDoor
