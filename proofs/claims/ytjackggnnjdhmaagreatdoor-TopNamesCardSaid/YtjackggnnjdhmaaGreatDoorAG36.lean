import Derived.Test.YtjackggnnjdhmaaGreatDoorAG21
import Derived.KernelRfl
namespace Go.Proofs.YtjackggnnjdhmaaGreatDoor
open Go.Ab
theorem k57e : Picks Tryz.prog 217 (p 8 0) 5 19 (spH n57x19 S57x19) fun h => h = spH n57x24 S57x24 := partR_t (runU_ok 217) (by kernel_rfl : partR (runU 217) (p 8 0) true 4 19 n57x19 S57x19 n57x24 S57x24 = true)
end Go.Proofs.YtjackggnnjdhmaaGreatDoor
