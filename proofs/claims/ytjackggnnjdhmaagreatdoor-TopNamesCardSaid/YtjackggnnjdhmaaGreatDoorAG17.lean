import Derived.Test.YtjackggnnjdhmaaGreatDoorAG15
import Derived.Test.YtjackggnnjdhmaaGreatDoorAG16
import Derived.KernelRfl
namespace Go.Proofs.YtjackggnnjdhmaaGreatDoor
open Go.Ab
theorem mm_one {f : FuncId} {x : EntM} (h : EntMOK Tryz.prog f x) : ∀ y ∈ [x], EntMOK Tryz.prog f y := by
 intro y hy
 rw [List.mem_singleton] at hy
 rw [hy]; exact h
theorem mm_cons {f : FuncId} {x : EntM} {l : List EntM} (h : EntMOK Tryz.prog f x) (hl : ∀ y ∈ l, EntMOK Tryz.prog f y) : ∀ y ∈ x :: l, EntMOK Tryz.prog f y := by
 intro y hy
 rcases List.mem_cons.1 hy with rfl | hy
 ·exact h
 ·exact hl y hy
noncomputable def ovT : Ovr := ovAdd 40 (eMemoM [m1, m4] noRun) (ovAdd 44 (eMemoM [m3] noRun) (ovAdd 211 (eMemoM [m39, m50] noRun) (ovAdd 154 (eMemoM [m5] noRun) (ovAdd 479 (eMemoM [m45, m53, m55] noRun) ovR))))
theorem ovT_ok : OvrOK Tryz.prog ovT := ovAdd_ok (eMemoM_ok (mm_cons m1_ok (mm_one m4_ok)) (noRun_ok 40)) (ovAdd_ok (eMemoM_ok (mm_one m3_ok) (noRun_ok 44)) (ovAdd_ok (eMemoM_ok (mm_cons m39_ok (mm_one m50_ok)) (noRun_ok 211)) (ovAdd_ok (eMemoM_ok (mm_one m5_ok) (noRun_ok 154)) (ovAdd_ok (eMemoM_ok (mm_cons m45_ok (mm_cons m53_ok (mm_one m55_ok))) (noRun_ok 479)) ovR_ok))))
theorem m42_ok : EntMOK Tryz.prog 215 m42 := entMR_ok (runOK_grun ovT_ok 60 215) (by kernel_rfl)
theorem m56_ok : EntMOK Tryz.prog 215 m56 := entMR_ok (runOK_grun ovT_ok 60 215) (by kernel_rfl)
theorem m47_ok : EntMOK Tryz.prog 432 m47 := entMR_ok (runOK_grun ovT_ok 60 432) (by kernel_rfl)
end Go.Proofs.YtjackggnnjdhmaaGreatDoor
