/- What the tied cards ask of the program and of a row. -/
import Derived.Test.YtnmbpghijbmhbaaGreatDoorCards
import Derived.KernelRfl
namespace Go.Proofs.YtnmbpghijbmhbaaGreatDoor
open Go
set_option maxRecDepth 100000
theorem card_main : Tryz.pinned.checked.prog.mainIs = some (true, "576785b55aa8774404f818fb15051f68669d0173158b8aaa76405364f7855e59".toList) := by kernel_rfl
theorem card_looks : false = Tryz.pinned.checked.prog.looks [] := by kernel_rfl
theorem card6_name : Tryz.prog.funcNamed Rows.cursorNobodyRow.func = some 6 := by kernel_rfl
theorem card6_goes : false = Rows.cursorNobodyRow.goesBy Tryz.pinned.checked.prog := by kernel_rfl
theorem card6_wf : Rows.cursorNobodyRow.wfByText (OpenSpec.ofChange Rows.cursorNobodySpec) = true := by kernel_rfl
theorem card6_stand : ([28].all fun u => !Tryz.prog.wantsStandIn u) = true := by kernel_rfl
theorem own6 : ownKnob Tryz.prog.godebug = none := by kernel_rfl
end Go.Proofs.YtnmbpghijbmhbaaGreatDoor
