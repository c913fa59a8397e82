import Derived.Test.YtjackggnnjdhmaaGreatDoorAG21
import Derived.KernelRfl
namespace Go.Proofs.YtjackggnnjdhmaaGreatDoor
open Go.Ab
theorem k48b : Picks Tryz.prog 217 (p 8 0) 6 6 (spH n48x6 S48x6) fun h => h = spH n48x12 S48x12 := partR_t (runU_ok 217) (by kernel_rfl : partR (runU 217) (p 8 0) true 5 6 n48x6 S48x6 n48x12 S48x12 = true)
end Go.Proofs.YtjackggnnjdhmaaGreatDoor
