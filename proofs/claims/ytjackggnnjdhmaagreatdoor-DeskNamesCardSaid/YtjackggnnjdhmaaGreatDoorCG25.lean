import Derived.Test.YtjackggnnjdhmaaGreatDoorCG24
import Derived.KernelRfl
namespace Go.Proofs.YtjackggnnjdhmaaGreatDoor
open Go.Ab
theorem k52a : Picks Tryz.prog 217 (p 8 0) 5 0 (spH m52.H.length (enumS m52.H 0)) fun h => h = spH n52x5 S52x5 := partR_t (runU_ok 217) (by kernel_rfl : partR (runU 217) (p 8 0) true 4 0 m52.H.length (enumS m52.H 0) n52x5 S52x5 = true)
end Go.Proofs.YtjackggnnjdhmaaGreatDoor
