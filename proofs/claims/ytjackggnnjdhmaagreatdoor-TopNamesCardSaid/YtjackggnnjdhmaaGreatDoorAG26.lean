import Derived.Test.YtjackggnnjdhmaaGreatDoorAG21
import Derived.KernelRfl
namespace Go.Proofs.YtjackggnnjdhmaaGreatDoor
open Go.Ab
theorem k48c : Picks Tryz.prog 217 (p 8 0) 5 12 (spH n48x12 S48x12) fun h => h = spH n48x17 S48x17 := partR_t (runU_ok 217) (by kernel_rfl : partR (runU 217) (p 8 0) true 4 12 n48x12 S48x12 n48x17 S48x17 = true)
end Go.Proofs.YtjackggnnjdhmaaGreatDoor
