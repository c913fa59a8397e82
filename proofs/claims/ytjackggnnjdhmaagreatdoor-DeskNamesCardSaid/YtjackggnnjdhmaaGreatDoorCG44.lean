import Derived.Test.YtjackggnnjdhmaaGreatDoorCG10
import Derived.Test.YtjackggnnjdhmaaGreatDoorRows
import Derived.Test.YtjackggnnjdhmaaGreatDoorCards
namespace Go.Proofs.YtjackggnnjdhmaaGreatDoor
open Go
set_option maxRecDepth 100000
theorem seat_3 : mapsRowed Tryz.prog = true := by kernel_rfl
theorem seat_7 : (Tryz.prog.stops == []) = true := by kernel_rfl
theorem seat_9 : (Tryz.prog.stopKnobs == []) = true := by kernel_rfl
theorem seat_25 : Tryz.prog.stopsHeard = true := by kernel_rfl
theorem seat_26 : Tryz.prog.mayEnter = true := by kernel_rfl
theorem card_main : Tryz.pinned.checked.prog.mainIs = some (true, "40381def2742567bc3a9cc1c54b9a4c9b41f5d6dd63baaf5fe68423d58e14348".toList) := by kernel_rfl
theorem card_looks : true = Tryz.pinned.checked.prog.looks [] := by kernel_rfl
theorem own3 : ownKnob Tryz.prog.godebug = none := by kernel_rfl
end Go.Proofs.YtjackggnnjdhmaaGreatDoor
