import Derived.Test.YtjackggnnjdhmaaGreatDoorCG16
import Derived.KernelRfl
namespace Go.Proofs.YtjackggnnjdhmaaGreatDoor
open Go.Ab
theorem m1_ok : EntMOK Tryz.prog 40 m1 := entMR_ok (runP_ok 40) (by kernel_rfl)
theorem m39_ok : EntMOK Tryz.prog 40 m39 := entMR_ok (runP_ok 40) (by kernel_rfl)
theorem m4_ok : EntMOK Tryz.prog 44 m4 := entMR_ok (runP_ok 44) (by kernel_rfl)
theorem m2_ok : EntMOK Tryz.prog 154 m2 := entMR_ok (runP_ok 154) (by kernel_rfl)
theorem m38_ok : EntMOK Tryz.prog 211 m38 := entMR_ok (runP_ok 211) (by kernel_rfl)
end Go.Proofs.YtjackggnnjdhmaaGreatDoor
