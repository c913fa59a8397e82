import Derived.Test.YtjackggnnjdhmaaGreatDoorCG48
namespace Go.Proofs.YtjackggnnjdhmaaGreatDoor
open Go
theorem tie7 : ∀ os tape, varsDone Tryz.prog 400 (varsId Tryz.prog) os tape = true := fun _ _ => by kernel_rfl
theorem tie8 : ∀ os tape, (DataW.laidRun Tryz.prog (varsWorld Tryz.prog 400 (varsId Tryz.prog) os tape).memory 8 (laidR.map (·.1))).map (·.1) = some laidR := fun _ _ => by kernel_rfl
end Go.Proofs.YtjackggnnjdhmaaGreatDoor
