/- What the tied cards ask of the program and of a row. -/
import Derived.Test.YtnglhicedhcpbaaGreatDoorCards
import Derived.KernelRfl
namespace Go.Proofs.YtnglhicedhcpbaaGreatDoor
open Go
set_option maxRecDepth 100000
theorem card_main : Tryz.pinned.checked.prog.mainIs = some (true, "167e363518a68182c5c761e88d2ab89c747fc052803a2d80bb731255294a9900".toList) := by kernel_rfl
theorem card_looks : false = Tryz.pinned.checked.prog.looks [] := by kernel_rfl
theorem card3_name : Tryz.prog.funcNamed Rows.segmentNobodyRow.func = some 3 := by kernel_rfl
theorem card3_goes : false = Rows.segmentNobodyRow.goesBy Tryz.pinned.checked.prog := by kernel_rfl
theorem card3_wf : Rows.segmentNobodyRow.wfByText (OpenSpec.ofChange Rows.segmentNobodySpec) = true := by kernel_rfl
theorem card3_stand : ([27, 3].all fun u => !Tryz.prog.wantsStandIn u) = true := by kernel_rfl
theorem own3 : ownKnob Tryz.prog.godebug = none := by kernel_rfl
end Go.Proofs.YtnglhicedhcpbaaGreatDoor
