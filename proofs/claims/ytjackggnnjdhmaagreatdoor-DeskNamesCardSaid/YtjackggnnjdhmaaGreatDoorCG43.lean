import Derived.Test.YtjackggnnjdhmaaGreatDoorCG5
import Derived.Test.YtjackggnnjdhmaaGreatDoorCG12
import Derived.Test.YtjackggnnjdhmaaGreatDoorCG42
namespace Go.Proofs.YtjackggnnjdhmaaGreatDoor
open Go.Ab
open Go.ChangeShapes Go.WideShapes Go.ChangeAt Go.RowKit
set_option maxRecDepth 100000
theorem wi1 : Tryz.checked.prog.inits.idxOf? 4 = none := by kernel_rfl
theorem wi2 (os : Os) : World.variablesZipB Tryz.checked.prog ((World.laidAll Tryz.prog os laidL).forCall (fun _ _ => 0) { blocks := #[], args := #[.agg #[.slice none 0 0, .int .i64 0], .agg #[.int .i64 0, .int .i64 0]] }) = true := by kernel_rfl
theorem wi3 (os : Os) : List.take ((begin Tryz.checked.prog (fun _ _ => 0) default).world.heap.size - Tryz.checked.prog.globals.size) (List.drop Tryz.checked.prog.globals.size ((World.laidAll Tryz.prog os laidL).forCall (fun _ _ => 0) { blocks := #[], args := #[.agg #[.slice none 0 0, .int .i64 0], .agg #[.int .i64 0, .int .i64 0]] }).heap.toList) = List.drop Tryz.checked.prog.globals.size (begin Tryz.checked.prog (fun _ _ => 0) default).world.heap.toList := by kernel_rfl
theorem wi4 (os : Os) : Input.okWideB Tryz.checked.prog ((World.laidAll Tryz.prog os laidL).forCall (fun _ _ => 0) { blocks := #[], args := #[.agg #[.slice none 0 0, .int .i64 0], .agg #[.int .i64 0, .int .i64 0]] }) 4 { blocks := #[], args := #[.agg #[.slice none 0 0, .int .i64 0], .agg #[.int .i64 0, .int .i64 0]] } = true := by kernel_rfl
theorem wi5 (os : Os) {H : Type} (enc : TypeId × Value → H) : ChangeSpec.preB enc Tryz.checked.prog Tryz.f4 Rows.deskNamesSpec Rows.deskNamesRow.domain false ((World.laidAll Tryz.prog os laidL).forCall (fun _ _ => 0) { blocks := #[], args := #[.agg #[.slice none 0 0, .int .i64 0], .agg #[.int .i64 0, .int .i64 0]] }).memory #[.agg #[.slice none 0 0, .int .i64 0], .agg #[.int .i64 0, .int .i64 0]] 8 = true := by kernel_rfl
theorem wi6 (os : Os) {H : Type} (enc : TypeId × Value → H) : ChangeSpec.sizedB enc Tryz.checked.prog Tryz.f4 Rows.deskNamesSpec false ((World.laidAll Tryz.prog os laidL).forCall (fun _ _ => 0) { blocks := #[], args := #[.agg #[.slice none 0 0, .int .i64 0], .agg #[.int .i64 0, .int .i64 0]] }).memory #[.agg #[.slice none 0 0, .int .i64 0], .agg #[.int .i64 0, .int .i64 0]] 8 = true := by kernel_rfl
theorem wi7 (os : Os) : World.layFits Tryz.prog (World.holding Tryz.prog os { blocks := #[], args := #[.agg #[.slice none 0 0, .int .i64 0], .agg #[.int .i64 0, .int .i64 0]] }) laidL [] = true := by kernel_rfl
theorem wi9 : (laidL.all fun x => x.2.handleName?.isNone) = true := by kernel_rfl
theorem wi10 : readables Tryz.checked.prog Tryz.f4.params.toList = true := by
 have e : Tryz.checked.prog = Tryz.prog := rfl
 unfold readables
 rw [e, seat_2, Tryz.params4]; rfl
end Go.Proofs.YtjackggnnjdhmaaGreatDoor
