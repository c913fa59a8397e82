import Derived.Test.YtjackggnnjdhmaaGreatDoorAG21
import Derived.KernelRfl
namespace Go.Proofs.YtjackggnnjdhmaaGreatDoor
open Go.Ab
theorem k48g : Picks Tryz.prog 217 (p 8 0) 3 29 (spH n48x29 S48x29) fun h => AC Tryz.prog 217 [p 8 0, .int .i64 32] h fun v h' => v = .bool false ∧ h' = spH n48xz S48xz := partR_ok (runU_ok 217) (by kernel_rfl : partR (runU 217) (p 8 0) false 3 29 n48x29 S48x29 n48xz S48xz = true)
end Go.Proofs.YtjackggnnjdhmaaGreatDoor
