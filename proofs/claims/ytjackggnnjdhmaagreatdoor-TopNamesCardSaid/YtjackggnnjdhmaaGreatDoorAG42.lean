import Derived.Test.YtjackggnnjdhmaaGreatDoorAG10
import Derived.Test.YtjackggnnjdhmaaGreatDoorAG41
import Derived.KernelRfl
namespace Go.Proofs.YtjackggnnjdhmaaGreatDoor
open Go.Ab
set_option linter.unusedVariables false
noncomputable def ovX : Ovr := ovAdd 20 (eMemoM [m59] noRun) ovT
theorem ovX_ok : OvrOK Tryz.prog ovX := ovAdd_ok (eMemoM_ok (mm_one m59_ok) (noRun_ok 20)) ovT_ok
noncomputable def isT (v : AV) (_ : EH) : Bool := isB true v
theorem run3 : wlaidE 0 gsAV ⟨.e, 0⟩ (fun h => grun Tryz.prog slotsOf ovX 60 3 [] h isT) = true := by kernel_rfl
theorem s3 {h : Heap} {Q : AV → Heap → Prop} (L : OverL h) (hQ : Q (.bool true) h) : AC Tryz.prog 3 [] h Q := by
 obtain ⟨e, H, hr⟩ := wlaidE_ok gsAV 0 _ [] _ HFor_nil run3
 exact AC_frame_gs (gs := gsAV) (v := .bool true) (grun_ok ovX_ok (by simpa using H) (fun x e' h' _ hx => isB_ok hx) hr) (fun _ _ _ h => h) (fun _ _ _ h => h) L hQ
end Go.Proofs.YtjackggnnjdhmaaGreatDoor
