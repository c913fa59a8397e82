import Derived.Test.YtjackggnnjdhmaaGreatDoorAG21
import Derived.KernelRfl
namespace Go.Proofs.YtjackggnnjdhmaaGreatDoor
open Go.Ab
theorem k57d : Picks Tryz.prog 217 (p 8 0) 2 17 (spH n57x17 S57x17) fun h => h = spH n57x19 S57x19 := partR_t (runU_ok 217) (by kernel_rfl : partR (runU 217) (p 8 0) true 1 17 n57x17 S57x17 n57x19 S57x19 = true)
end Go.Proofs.YtjackggnnjdhmaaGreatDoor
