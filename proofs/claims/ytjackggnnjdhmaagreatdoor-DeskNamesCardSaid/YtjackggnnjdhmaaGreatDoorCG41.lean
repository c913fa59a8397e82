import Derived.Test.YtjackggnnjdhmaaGreatDoorCG10
import Derived.Test.YtjackggnnjdhmaaGreatDoorCG40
import Derived.KernelRfl
namespace Go.Proofs.YtjackggnnjdhmaaGreatDoor
open Go.Ab
set_option linter.unusedVariables false
noncomputable def isT (v : AV) (_ : EH) : Bool := isB true v
theorem run9 : wlaidE 0 gsAV ⟨.e, 0⟩ (fun h => grun Tryz.prog slotsOf ovX 60 9 [] h isT) = true := by kernel_rfl
theorem s9 {h : Heap} {Q : AV → Heap → Prop} (L : OverL h) (hQ : Q (.bool true) h) : AC Tryz.prog 9 [] h Q := by
 obtain ⟨e, H, hr⟩ := wlaidE_ok gsAV 0 _ [] _ HFor_nil run9
 exact AC_frame_gs (gs := gsAV) (v := .bool true) (grun_ok ovX_ok (by simpa using H) (fun x e' h' _ hx => isB_ok hx) hr) (fun _ _ _ h => h) (fun _ _ _ h => h) L hQ
end Go.Proofs.YtjackggnnjdhmaaGreatDoor
