import Derived.Test.YtjackggnnjdhmaaGreatDoorAG21
import Derived.KernelRfl
namespace Go.Proofs.YtjackggnnjdhmaaGreatDoor
open Go.Ab
theorem k48d : Picks Tryz.prog 217 (p 8 0) 2 17 (spH n48x17 S48x17) fun h => h = spH n48x19 S48x19 := partR_t (runU_ok 217) (by kernel_rfl : partR (runU 217) (p 8 0) true 1 17 n48x17 S48x17 n48x19 S48x19 = true)
end Go.Proofs.YtjackggnnjdhmaaGreatDoor
