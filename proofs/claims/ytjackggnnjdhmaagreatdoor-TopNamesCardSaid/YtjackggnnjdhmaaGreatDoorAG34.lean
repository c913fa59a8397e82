import Derived.Test.YtjackggnnjdhmaaGreatDoorAG21
import Derived.KernelRfl
namespace Go.Proofs.YtjackggnnjdhmaaGreatDoor
open Go.Ab
theorem k57c : Picks Tryz.prog 217 (p 8 0) 5 12 (spH n57x12 S57x12) fun h => h = spH n57x17 S57x17 := partR_t (runU_ok 217) (by kernel_rfl : partR (runU 217) (p 8 0) true 4 12 n57x12 S57x12 n57x17 S57x17 = true)
end Go.Proofs.YtjackggnnjdhmaaGreatDoor
