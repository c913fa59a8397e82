import Derived.Test.YtjackggnnjdhmaaGreatDoorAG21
import Derived.KernelRfl
namespace Go.Proofs.YtjackggnnjdhmaaGreatDoor
open Go.Ab
theorem k57h : Picks Tryz.prog 217 (p 8 0) 2 32 (spH n57x32 S57x32) fun h => AC Tryz.prog 217 [p 8 0, .int .i64 34] h fun v h' => v = .bool false ∧ h' = spH n57xz S57xz := partR_ok (runU_ok 217) (by kernel_rfl : partR (runU 217) (p 8 0) false 2 32 n57x32 S57x32 n57xz S57xz = true)
end Go.Proofs.YtjackggnnjdhmaaGreatDoor
