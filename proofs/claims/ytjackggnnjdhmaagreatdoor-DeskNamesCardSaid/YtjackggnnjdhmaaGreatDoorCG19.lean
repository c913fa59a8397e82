import Derived.Test.YtjackggnnjdhmaaGreatDoorCG17
import Derived.Test.YtjackggnnjdhmaaGreatDoorCG18
import Derived.KernelRfl
namespace Go.Proofs.YtjackggnnjdhmaaGreatDoor
open Go.Ab
theorem mm_one {f : FuncId} {x : EntM} (h : EntMOK Tryz.prog f x) : ∀ y ∈ [x], EntMOK Tryz.prog f y := by
 intro y hy
 rw [List.mem_singleton] at hy
 rw [hy]; exact h
theorem mm_cons {f : FuncId} {x : EntM} {l : List EntM} (h : EntMOK Tryz.prog f x) (hl : ∀ y ∈ l, EntMOK Tryz.prog f y) : ∀ y ∈ x :: l, EntMOK Tryz.prog f y := by
 intro y hy
 rcases List.mem_cons.1 hy with rfl | hy
 ·exact h
 ·exact hl y hy
noncomputable def ovT : Ovr := (ovAdd 40 (eMemoM [m1, m39] noRun) (ovAdd 44 (eMemoM [m4] noRun) (ovAdd 211 (eMemoM [m38] noRun) (ovAdd 154 (eMemoM [m2] noRun) (ovAdd 479 (eMemoM [m46, m48, m50] noRun) ovR)))))
theorem ovT_ok : OvrOK Tryz.prog ovT := (ovAdd_ok (eMemoM_ok (mm_cons m1_ok (mm_one m39_ok)) (noRun_ok 40)) (ovAdd_ok (eMemoM_ok (mm_one m4_ok) (noRun_ok 44)) (ovAdd_ok (eMemoM_ok (mm_one m38_ok) (noRun_ok 211)) (ovAdd_ok (eMemoM_ok (mm_one m2_ok) (noRun_ok 154)) (ovAdd_ok (eMemoM_ok (mm_cons m46_ok (mm_cons m48_ok (mm_one m50_ok))) (noRun_ok 479)) ovR_ok)))))
end Go.Proofs.YtjackggnnjdhmaaGreatDoor
