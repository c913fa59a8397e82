import Derived.Test.YtjackggnnjdhmaaGreatDoorAG21
import Derived.KernelRfl
namespace Go.Proofs.YtjackggnnjdhmaaGreatDoor
open Go.Ab
theorem k57b : Picks Tryz.prog 217 (p 8 0) 6 6 (spH n57x6 S57x6) fun h => h = spH n57x12 S57x12 := partR_t (runU_ok 217) (by kernel_rfl : partR (runU 217) (p 8 0) true 5 6 n57x6 S57x6 n57x12 S57x12 = true)
end Go.Proofs.YtjackggnnjdhmaaGreatDoor
