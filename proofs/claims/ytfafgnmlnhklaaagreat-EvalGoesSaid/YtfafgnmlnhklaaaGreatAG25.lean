/- The run that asks whether all lives. -/
import Derived.Test.YtfafgnmlnhklaaaGreatAG10
import Derived.Test.YtfafgnmlnhklaaaGreatAG11
import Derived.Test.YtfafgnmlnhklaaaGreatAG18
import Derived.Test.YtfafgnmlnhklaaaGreatAG24
namespace Go.Proofs.YtfafgnmlnhklaaaGreat
open Go.Ab
set_option linter.unusedVariables false
set_option linter.unusedSimpArgs false
abbrev ovF : Ovr := Go.AbI.ovKS [(64, 93)] 63
set_option maxRecDepth 100000 in
theorem run21 : erun Tryz.prog slotsOf ovF 60 21 [] ⟨.e, 0⟩ isTrue = true := by kernel_rfl
section
variable {h : Heap} {Q : AV → Heap → Prop}
/-- What lives in every program lives in this one. -/
theorem s21 (hQ : Q (.bool true) h) : AC Tryz.prog 21 [] h Q :=
  AC_frame (v := .bool true) (erun_ok Tryz.ovOk 60 21 _ _ _ _ _ HFor_nil (fun v e' h' _ hv => isTrue_ok hv) run21) (fun _ _ h => h) (fun _ _ _ h => h) hQ
end
end Go.Proofs.YtfafgnmlnhklaaaGreat

/- The run that asks whether all lives in layer 19. -/
namespace Go.Proofs.YtfafgnmlnhklaaaGreat
open Go.Ab
set_option linter.unusedVariables false
set_option linter.unusedSimpArgs false
set_option maxRecDepth 100000 in
theorem runw8 : wrun Tryz.prog slotsOf ovF 60 8 [] ⟨.e, 0⟩ isTrue = true := by kernel_rfl
theorem run8 : erun Tryz.prog slotsOf ovF 60 8 [] ⟨.e, 0⟩ isTrue = true := erun_of runw8
section
variable {h : Heap} {Q : AV → Heap → Prop}
/-- .. in layer 19. -/
theorem s8 (hQ : Q (.bool true) h) : AC Tryz.prog 8 [] h Q :=
  AC_frame (v := .bool true) (erun_ok Tryz.ovOk 60 8 _ _ _ _ _ HFor_nil (fun v e' h' _ hv => isTrue_ok hv) run8) (fun _ _ h => h) (fun _ _ _ h => h) hQ
end
end Go.Proofs.YtfafgnmlnhklaaaGreat
