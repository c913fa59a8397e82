/- The run that asks whether all lives. -/
import Derived.Test.YtfafgnmlnhklaaaAG10
import Derived.Test.YtfafgnmlnhklaaaAG18
import Derived.Test.YtfafgnmlnhklaaaAG21
namespace Go.Proofs.Ytfafgnmlnhklaaa
open Go.Ab
set_option linter.unusedVariables false
set_option linter.unusedSimpArgs false
abbrev ovF : Ovr := Go.AbI.ovKS [(33, 52)] 32
set_option maxRecDepth 100000 in
theorem run14 : erun Try.prog slotsOf ovF 60 14 [] ⟨.e, 0⟩ isTrue = true := by kernel_rfl
section
variable {h : Heap} {Q : AV → Heap → Prop}
/-- What lives in every program lives in this one. -/
theorem s14 (hQ : Q (.bool true) h) : AC Try.prog 14 [] h Q :=
  AC_frame (v := .bool true) (erun_ok Try.ovOk 60 14 _ _ _ _ _ HFor_nil (fun v e' h' _ hv => isTrue_ok hv) run14) (fun _ _ h => h) (fun _ _ _ h => h) hQ
end
end Go.Proofs.Ytfafgnmlnhklaaa
