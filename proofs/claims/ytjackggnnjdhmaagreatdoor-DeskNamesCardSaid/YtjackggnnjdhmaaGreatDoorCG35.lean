import Derived.Test.YtjackggnnjdhmaaGreatDoorCG24
import Derived.KernelRfl
namespace Go.Proofs.YtjackggnnjdhmaaGreatDoor
open Go.Ab
theorem k52k : Picks Tryz.prog 217 (p 8 0) 1 46 (spH n52x46 S52x46) fun h => AC Tryz.prog 217 [p 8 0, .int .i64 47] h fun v h' => v = .bool false ∧ h' = spH n52xz S52xz := partR_ok (runU_ok 217) (by kernel_rfl : partR (runU 217) (p 8 0) false 1 46 n52x46 S52x46 n52xz S52xz = true)
end Go.Proofs.YtjackggnnjdhmaaGreatDoor
