import Derived.Test.YtjackggnnjdhmaaGreatDoorAG14
import Derived.KernelRfl
namespace Go.Proofs.YtjackggnnjdhmaaGreatDoor
open Go.Ab
theorem m45_ok : EntMOK Tryz.prog 479 m45 := entMR_ok (runP_ok 479) (by kernel_rfl)
theorem m53_ok : EntMOK Tryz.prog 479 m53 := entMR_ok (runP_ok 479) (by kernel_rfl)
theorem m55_ok : EntMOK Tryz.prog 479 m55 := entMR_ok (runP_ok 479) (by kernel_rfl)
theorem m50_ok : EntMOK Tryz.prog 211 m50 := entMR_ok (runP_ok 211) (by kernel_rfl)
end Go.Proofs.YtjackggnnjdhmaaGreatDoor
