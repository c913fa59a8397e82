import Derived.Test.YtjackggnnjdhmaaGreatDoorAG21
import Derived.KernelRfl
namespace Go.Proofs.YtjackggnnjdhmaaGreatDoor
open Go.Ab
theorem k57a : Picks Tryz.prog 217 (p 8 0) 6 0 (spH m57.H.length (enumS m57.H 0)) fun h => h = spH n57x6 S57x6 := partR_t (runU_ok 217) (by kernel_rfl : partR (runU 217) (p 8 0) true 5 0 m57.H.length (enumS m57.H 0) n57x6 S57x6 = true)
end Go.Proofs.YtjackggnnjdhmaaGreatDoor
