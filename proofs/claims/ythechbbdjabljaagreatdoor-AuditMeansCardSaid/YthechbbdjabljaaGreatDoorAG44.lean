import Derived.Test.YthechbbdjabljaaGreatDoorAG8
import Derived.Test.YthechbbdjabljaaGreatDoorRows
import Derived.Test.YthechbbdjabljaaGreatDoorCards
namespace Go.Proofs.YthechbbdjabljaaGreatDoor
open Go
set_option maxRecDepth 100000
theorem aj_:mapsRowed Tryz.prog=true:=by kernel_rfl
theorem aj9:(Tryz.prog.stops==[])=true:=by kernel_rfl
theorem aj8:(Tryz.prog.stopKnobs==[])=true:=by kernel_rfl
theorem aiL:Tryz.prog.stopsHeard=true:=by kernel_rfl
theorem aiK:Tryz.prog.mayEnter=true:=by kernel_rfl
theorem ahj:Tryz.pinned.checked.prog.mainIs=some (true,"04af38e6d994046ee2a0ab266d455f3dc8f49c2954db86a729523a669ae50df8".toList):=by kernel_rfl
theorem agq:false=Tryz.pinned.checked.prog.looks []:=by kernel_rfl
theorem Q7:ownKnob Tryz.prog.godebug=none:=by kernel_rfl
end Go.Proofs.YthechbbdjabljaaGreatDoor
