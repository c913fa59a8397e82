import Derived.Test.YtjackggnnjdhmaaGreatDoorAG21
import Derived.KernelRfl
namespace Go.Proofs.YtjackggnnjdhmaaGreatDoor
open Go.Ab
theorem k48f : Picks Tryz.prog 217 (p 8 0) 5 24 (spH n48x24 S48x24) fun h => h = spH n48x29 S48x29 := partR_t (runU_ok 217) (by kernel_rfl : partR (runU 217) (p 8 0) true 4 24 n48x24 S48x24 n48x29 S48x29 = true)
end Go.Proofs.YtjackggnnjdhmaaGreatDoor
