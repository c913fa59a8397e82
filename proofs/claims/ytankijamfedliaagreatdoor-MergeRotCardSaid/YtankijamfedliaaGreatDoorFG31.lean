import Derived.Test.YtankijamfedliaaGreatDoorFG12
import Derived.Test.YtankijamfedliaaGreatDoorFG20
import Derived.Test.YtankijamfedliaaGreatDoorFG30
namespace Go.Proofs.YtankijamfedliaaGreatDoor
open Go.Ab
set_option linter.unusedVariables false
set_option linter.unusedSimpArgs false
theorem noOvr : OvrOK Tryz.prog (fun _ => none) := by intro f g h; cases h
set_option maxRecDepth 100000 in
theorem runx29 : elaid Tryz.prog slotsOf (fun _ => none) 60 0 tblAV 29 [] isTrue = true := by kernel_rfl
section
variable {h : Heap} {Q : AV → Heap → Prop}
theorem tbl_plainx : ∀ x ∈ tblAV, ∀ (μ μ' : Ren) (y : Value), x.rel μ y → x.rel μ' y := by
 intro x hx μ μ' y h
 obtain ⟨n, _, rfl⟩ := List.mem_map.1 hx
 exact h
theorem s29 (L : Laid h) (hQ : Q (.bool true) h) : AC Tryz.prog 29 [] h Q :=
 AC_elaid noOvr (fun v e hv => isTrue_ok hv) runx29 L.1 L.2 tbl_plainx hQ
end
end Go.Proofs.YtankijamfedliaaGreatDoor
