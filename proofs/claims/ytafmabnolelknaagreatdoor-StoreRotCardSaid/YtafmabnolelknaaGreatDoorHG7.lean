import Derived.Test.YtafmabnolelknaaGreatDoorHG2
import Derived.Test.YtafmabnolelknaaGreatDoorRows
import Derived.Test.YtafmabnolelknaaGreatDoorCards
set_option maxRecDepth 100000
set_option maxHeartbeats 2000000
namespace Go.Proofs.YtafmabnolelknaaGreatDoor
open Go
theorem akM:laidOutB Tryz.prog=true:=by kernel_rfl
theorem akL:mapsRowed Tryz.prog=true:=by kernel_rfl
theorem akK:(Tryz.prog.stops==[])=true:=by kernel_rfl
theorem akJ:(Tryz.prog.stopKnobs==[])=true:=by kernel_rfl
theorem ajU:Tryz.prog.stopsHeard=true:=by kernel_rfl
theorem ajT:Tryz.prog.mayEnter=true:=by kernel_rfl
theorem aiw:Tryz.pinned.checked.prog.mainIs=some (true,"a135674dfacc129f112544c4b8fa39b787132e786b4bf04053af45495352e943".toList):=by kernel_rfl
theorem aha:false=Tryz.pinned.checked.prog.looks []:=by kernel_rfl
theorem aqN:ownKnob Tryz.prog.godebug=none:=by kernel_rfl
end Go.Proofs.YtafmabnolelknaaGreatDoor
