import Derived.Test.YtjackggnnjdhmaaGreatDoorRows
import Derived.LaidByTextLater
import Derived.SevenTiedAt
namespace Go.Proofs.YtjackggnnjdhmaaGreatDoor
open Go
abbrev laidR : List (String × DataW Unit) := Rows.deskNamesRow.laid.take 4 ++ Rows.deskNamesRow.laid.drop 5
theorem tie1 : Tryz.prog.worded (varsWordLater true) = true := by kernel_rfl
theorem tie2 : Tryz.prog.worded (varsWordLater !true) = false := by kernel_rfl
theorem tie3 : Tryz.prog.worded rootWordLater = true := by kernel_rfl
theorem tie4 : laidR.map (fun x => Tryz.prog.kindOfLater x.1) = ([.data, .data, .data, .data, .data] : List LaidKind).map some := by kernel_rfl
theorem tie5 : (Tryz.prog.funcNamed "gosem.cut.vars").isSome = true := by kernel_rfl
theorem tie6 : varsNamedLaterB Tryz.prog (varsId Tryz.prog) laidR = true := by kernel_rfl
end Go.Proofs.YtjackggnnjdhmaaGreatDoor
