import Derived.Test.YtjackggnnjdhmaaGreatDoorAG21
import Derived.KernelRfl
namespace Go.Proofs.YtjackggnnjdhmaaGreatDoor
open Go.Ab
theorem k57g : Picks Tryz.prog 217 (p 8 0) 3 29 (spH n57x29 S57x29) fun h => h = spH n57x32 S57x32 := partR_t (runU_ok 217) (by kernel_rfl : partR (runU 217) (p 8 0) true 2 29 n57x29 S57x29 n57x32 S57x32 = true)
end Go.Proofs.YtjackggnnjdhmaaGreatDoor
