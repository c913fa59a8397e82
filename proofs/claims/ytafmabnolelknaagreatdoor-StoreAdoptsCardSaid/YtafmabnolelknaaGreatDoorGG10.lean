import Derived.Test.YtafmabnolelknaaGreatDoorGG3
import Derived.Test.YtafmabnolelknaaGreatDoorRows
import Derived.Test.YtafmabnolelknaaGreatDoorCards
set_option maxRecDepth 100000
set_option maxHeartbeats 2000000
namespace Go.Proofs.YtafmabnolelknaaGreatDoor
open Go
theorem anJ:laidOutB Tryz.prog=true:=by kernel_rfl
theorem anI:mapsRowed Tryz.prog=true:=by kernel_rfl
theorem anH:(Tryz.prog.stops==[])=true:=by kernel_rfl
theorem anG:(Tryz.prog.stopKnobs==[])=true:=by kernel_rfl
theorem amQ:Tryz.prog.stopsHeard=true:=by kernel_rfl
theorem amP:Tryz.prog.mayEnter=true:=by kernel_rfl
theorem alz:Tryz.pinned.checked.prog.mainIs=some (true,"a135674dfacc129f112544c4b8fa39b787132e786b4bf04053af45495352e943".toList):=by kernel_rfl
theorem akt:false=Tryz.pinned.checked.prog.looks []:=by kernel_rfl
theorem auo:ownKnob Tryz.prog.godebug=none:=by kernel_rfl
end Go.Proofs.YtafmabnolelknaaGreatDoor
