import Derived.Test.YtjackggnnjdhmaaGreatDoorAG46
namespace Go.Proofs.YtjackggnnjdhmaaGreatDoor
open Go
set_option maxRecDepth 100000
theorem closed3_10 : (Rows.topNamesRow.inPlace == Tryz.prog.inPlace 3) = true := by
 unfold Program.inPlace; rw [clo3]; kernel_rfl
theorem closed3_11 : (Rows.topNamesRow.unfollowed == Tryz.prog.unfollowed 3) = true := by
 unfold Program.unfollowed; rw [clo3]; kernel_rfl
theorem unf3 : Tryz.prog.unfollowed 3 = true := by
 have h := eq_of_beq closed3_11
 exact h.symm.trans rfl
theorem closed3_12 : (Rows.topNamesRow.recurses == Tryz.prog.recurses 3) = true := by
 unfold Program.recurses; rw [unf3]; rfl
theorem closed3_13 : (Rows.topNamesRow.named == Tryz.prog.varsNamed 3) = true := by
 unfold Program.varsNamed; rw [clo3]; kernel_rfl
theorem card3_name : Tryz.prog.funcNamed Rows.topNamesRow.func = some 3 := by kernel_rfl
theorem goes3a : (reach3.any fun g => (Tryz.prog.funcs[g]?).any Func.goes) = false := by kernel_rfl
theorem goes3b : Tryz.prog.funcs.any Func.goes = false := by kernel_rfl
theorem goes3 : Tryz.prog.goes 3 = false := by
 unfold Program.goes
 rw [clo3, goes3a, goes3b, Bool.and_false]; rfl
theorem prog_pin : Tryz.pinned.checked.prog = Tryz.prog := rfl
theorem row_start : Rows.topNamesRow.start = .entering := rfl
theorem card3_goes : false = Rows.topNamesRow.goesBy Tryz.pinned.checked.prog := by
 unfold OpenClaim.goesBy Program.goesAt Program.goesFrom
 rw [prog_pin, card3_name, row_start, Option.any_some, goes3]
 rfl
end Go.Proofs.YtjackggnnjdhmaaGreatDoor
