import Derived.Test.YtjackggnnjdhmaaGreatDoorAG50
namespace Go.Proofs.YtjackggnnjdhmaaGreatDoor
open Go
theorem tie9 : ∀ os tape, (DataW.laidRun Tryz.prog (varsWorld Tryz.prog 400 (varsId Tryz.prog) os tape).memory 8 (laidR.map (·.1))).map (fun x => decide x.2.Nodup && laidRowsB Tryz.prog (varsWorld Tryz.prog 400 (varsId Tryz.prog) os tape).memory x.2) = some true := fun _ _ => by kernel_rfl
theorem tie : Tryz.prog.laidByTextLater laidR [.data, .data, .data, .data] true :=
 Program.laidByTextLater_by_run 400 8 tie1 tie2 tie3 tie4 tie5 tie6 tie7 tie8 tie9
theorem topNames_row_tie : Rows.topNamesRow.laidByTextAt .later Tryz.pinned [.data, .data, .data, .data] true :=
 OpenClaim.laidByTextAt_later rfl rfl tie (by kernel_rfl)
end Go.Proofs.YtjackggnnjdhmaaGreatDoor
