import Derived.Test.YtjackggnnjdhmaaGreatDoorCG16
import Derived.KernelRfl
namespace Go.Proofs.YtjackggnnjdhmaaGreatDoor
open Go.Ab
theorem m46_ok : EntMOK Tryz.prog 479 m46 := entMR_ok (runP_ok 479) (by kernel_rfl)
theorem m48_ok : EntMOK Tryz.prog 479 m48 := entMR_ok (runP_ok 479) (by kernel_rfl)
theorem m50_ok : EntMOK Tryz.prog 479 m50 := entMR_ok (runP_ok 479) (by kernel_rfl)
end Go.Proofs.YtjackggnnjdhmaaGreatDoor
