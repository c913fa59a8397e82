import Derived.Test.YtafmabnolelknaaGreatDoorFG4
import Derived.Test.YtafmabnolelknaaGreatDoorRows
import Derived.Test.YtafmabnolelknaaGreatDoorCards
set_option maxRecDepth 100000
set_option maxHeartbeats 2000000
namespace Go.Proofs.YtafmabnolelknaaGreatDoor
open Go
theorem ajP:laidOutB Tryz.prog=true:=by kernel_rfl
theorem ajO:mapsRowed Tryz.prog=true:=by kernel_rfl
theorem ajN:(Tryz.prog.stops==[])=true:=by kernel_rfl
theorem ajM:(Tryz.prog.stopKnobs==[])=true:=by kernel_rfl
theorem aiR:Tryz.prog.stopsHeard=true:=by kernel_rfl
theorem aiQ:Tryz.prog.mayEnter=true:=by kernel_rfl
theorem ahn:Tryz.pinned.checked.prog.mainIs=some (true,"a135674dfacc129f112544c4b8fa39b787132e786b4bf04053af45495352e943".toList):=by kernel_rfl
theorem agd:false=Tryz.pinned.checked.prog.looks []:=by kernel_rfl
theorem apy:ownKnob Tryz.prog.godebug=none:=by kernel_rfl
end Go.Proofs.YtafmabnolelknaaGreatDoor
