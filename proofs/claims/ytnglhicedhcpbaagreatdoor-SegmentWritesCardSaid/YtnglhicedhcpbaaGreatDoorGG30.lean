/- The run that asks whether all lives in layer 8. -/
import Derived.Test.YtnglhicedhcpbaaGreatDoorGG11
import Derived.Test.YtnglhicedhcpbaaGreatDoorGG17
import Derived.Test.YtnglhicedhcpbaaGreatDoorGG25
import Derived.Test.YtnglhicedhcpbaaGreatDoorGG29
namespace Go.Proofs.YtnglhicedhcpbaaGreatDoor
open Go.Ab
set_option linter.unusedVariables false
set_option linter.unusedSimpArgs false
abbrev ovF : Ovr := ovKS [(123, 203), (124, 204)] 122
set_option maxRecDepth 100000 in
theorem runw19 : wlaid Tryz.prog slotsOf ovF 60 0 tblAV 19 [] isTrue = true := by kernel_rfl
section
variable {h : Heap} {Q : AV → Heap → Prop}
theorem tbl_plain : ∀ x ∈ tblAV, ∀ (μ μ' : Ren) (y : Value), x.rel μ y → x.rel μ' y := by
  intro x hx μ μ' y h
  obtain ⟨n, _, rfl⟩ := List.mem_map.1 hx
  exact h
/-- .. in layer 8. -/
theorem s19 (L : Laid h) (hQ : Q (.bool true) h) : AC Tryz.prog 19 [] h Q :=
  AC_laid Tryz.ovOk (fun v e hv => isTrue_ok hv) runw19 L.1 L.2 tbl_plain hQ
end
end Go.Proofs.YtnglhicedhcpbaaGreatDoor
