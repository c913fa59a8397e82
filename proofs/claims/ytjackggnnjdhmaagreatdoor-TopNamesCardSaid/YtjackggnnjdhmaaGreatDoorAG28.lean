import Derived.Test.YtjackggnnjdhmaaGreatDoorAG21
import Derived.KernelRfl
namespace Go.Proofs.YtjackggnnjdhmaaGreatDoor
open Go.Ab
theorem k48e : Picks Tryz.prog 217 (p 8 0) 5 19 (spH n48x19 S48x19) fun h => h = spH n48x24 S48x24 := partR_t (runU_ok 217) (by kernel_rfl : partR (runU 217) (p 8 0) true 4 19 n48x19 S48x19 n48x24 S48x24 = true)
end Go.Proofs.YtjackggnnjdhmaaGreatDoor
