/- The run that asks whether all lives in layer 19. -/
import Derived.Test.YtfafgnmlnhklaaaBG11
import Derived.Test.YtfafgnmlnhklaaaBG12
import Derived.Test.YtfafgnmlnhklaaaBG18
import Derived.Test.YtfafgnmlnhklaaaBG23
namespace Go.Proofs.Ytfafgnmlnhklaaa
open Go.Ab
set_option linter.unusedVariables false
set_option linter.unusedSimpArgs false
abbrev ovQ : Ovr := Go.AbI.ovKS [(33, 52)] 32
set_option maxRecDepth 100000 in
theorem runw9 : wrun Try.prog slotsOf ovQ 60 9 [] ⟨.e, 0⟩ isTrue = true := by kernel_rfl
theorem run9 : erun Try.prog slotsOf ovQ 60 9 [] ⟨.e, 0⟩ isTrue = true := erun_of runw9
section
variable {h : Heap} {Q : AV → Heap → Prop}
/-- .. in layer 19. -/
theorem s9 (hQ : Q (.bool true) h) : AC Try.prog 9 [] h Q :=
  AC_frame (v := .bool true) (erun_ok Try.ovOk 60 9 _ _ _ _ _ HFor_nil (fun v e' h' _ hv => isTrue_ok hv) run9) (fun _ _ h => h) (fun _ _ _ h => h) hQ
end
end Go.Proofs.Ytfafgnmlnhklaaa
