import Derived.Test.YtjackggnnjdhmaaGreatDoorAG21
import Derived.KernelRfl
namespace Go.Proofs.YtjackggnnjdhmaaGreatDoor
open Go.Ab
theorem k57f : Picks Tryz.prog 217 (p 8 0) 5 24 (spH n57x24 S57x24) fun h => h = spH n57x29 S57x29 := partR_t (runU_ok 217) (by kernel_rfl : partR (runU 217) (p 8 0) true 4 24 n57x24 S57x24 n57x29 S57x29 = true)
end Go.Proofs.YtjackggnnjdhmaaGreatDoor
