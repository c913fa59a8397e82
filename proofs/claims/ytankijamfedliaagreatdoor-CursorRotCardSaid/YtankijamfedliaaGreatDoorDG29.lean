import Derived.Test.YtankijamfedliaaGreatDoorDG12
import Derived.Test.YtankijamfedliaaGreatDoorDG20
import Derived.Test.YtankijamfedliaaGreatDoorDG23
import Derived.Test.YtankijamfedliaaGreatDoorDG28
namespace Go.Proofs.YtankijamfedliaaGreatDoor
open Go.Ab
set_option linter.unusedVariables false
set_option linter.unusedSimpArgs false
abbrev ovF : Ovr := ovKS [(150, 160)] 149
set_option maxRecDepth 100000 in
theorem runw10 : wlaid Tryz.prog slotsOf ovF 60 0 tblAV 10 [] isTrue = true := by kernel_rfl
section
variable {h : Heap} {Q : AV → Heap → Prop}
theorem tbl_plain : ∀ x ∈ tblAV, ∀ (μ μ' : Ren) (y : Value), x.rel μ y → x.rel μ' y := by
  intro x hx μ μ' y h
  obtain ⟨n, _, rfl⟩ := List.mem_map.1 hx
  exact h
theorem s10 (L : Laid h) (hQ : Q (.bool true) h) : AC Tryz.prog 10 [] h Q :=
  AC_laid Tryz.ovOk (fun v e hv => isTrue_ok hv) runw10 L.1 L.2 tbl_plain hQ
end
end Go.Proofs.YtankijamfedliaaGreatDoor
