import Derived.Test.YtjackggnnjdhmaaGreatDoorAG21
import Derived.KernelRfl
namespace Go.Proofs.YtjackggnnjdhmaaGreatDoor
open Go.Ab
theorem k48a : Picks Tryz.prog 217 (p 8 0) 6 0 (spH m48.H.length (enumS m48.H 0)) fun h => h = spH n48x6 S48x6 := partR_t (runU_ok 217) (by kernel_rfl : partR (runU 217) (p 8 0) true 5 0 m48.H.length (enumS m48.H 0) n48x6 S48x6 = true)
end Go.Proofs.YtjackggnnjdhmaaGreatDoor
