/- The run that asks whether all lives. -/
import Derived.Test.YtfafgnmlnhklaaaGreatAG10
import Derived.Test.YtfafgnmlnhklaaaGreatAG18
import Derived.Test.YtfafgnmlnhklaaaGreatAG21
namespace Go.Proofs.YtfafgnmlnhklaaaGreat
open Go.Ab
set_option linter.unusedVariables false
set_option linter.unusedSimpArgs false
abbrev ovF : Ovr := Go.AbI.ovKS [(64, 93)] 63
set_option maxRecDepth 100000 in
theorem run21 : erun Tryz.prog slotsOf ovF 60 21 [] ⟨.e, 0⟩ isTrue = true := by kernel_rfl
section
variable {h : Heap} {Q : AV → Heap → Prop}
/-- What lives in every program lives in this one. -/
theorem s21 (hQ : Q (.bool true) h) : AC Tryz.prog 21 [] h Q :=
  AC_frame (v := .bool true) (erun_ok Tryz.ovOk 60 21 _ _ _ _ _ HFor_nil (fun v e' h' _ hv => isTrue_ok hv) run21) (fun _ _ h => h) (fun _ _ _ h => h) hQ
end
end Go.Proofs.YtfafgnmlnhklaaaGreat
