import Derived.Test.YtjackggnnjdhmaaGreatDoorAG14
import Derived.KernelRfl
namespace Go.Proofs.YtjackggnnjdhmaaGreatDoor
open Go.Ab
theorem m1_ok : EntMOK Tryz.prog 40 m1 := entMR_ok (runP_ok 40) (by kernel_rfl)
theorem m4_ok : EntMOK Tryz.prog 40 m4 := entMR_ok (runP_ok 40) (by kernel_rfl)
theorem m3_ok : EntMOK Tryz.prog 44 m3 := entMR_ok (runP_ok 44) (by kernel_rfl)
theorem m5_ok : EntMOK Tryz.prog 154 m5 := entMR_ok (runP_ok 154) (by kernel_rfl)
theorem m39_ok : EntMOK Tryz.prog 211 m39 := entMR_ok (runP_ok 211) (by kernel_rfl)
end Go.Proofs.YtjackggnnjdhmaaGreatDoor
