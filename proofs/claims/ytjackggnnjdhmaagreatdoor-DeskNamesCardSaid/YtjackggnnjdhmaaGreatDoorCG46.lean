import Derived.Test.YtjackggnnjdhmaaGreatDoorCG45
namespace Go.Proofs.YtjackggnnjdhmaaGreatDoor
open Go
set_option maxRecDepth 100000
theorem closed4_10 : (Rows.deskNamesRow.inPlace == Tryz.prog.inPlace 4) = true := by
 unfold Program.inPlace; rw [clo4]; kernel_rfl
theorem closed4_11 : (Rows.deskNamesRow.unfollowed == Tryz.prog.unfollowed 4) = true := by
 unfold Program.unfollowed; rw [clo4]; kernel_rfl
theorem unf4 : Tryz.prog.unfollowed 4 = true := by
 have h := eq_of_beq closed4_11
 exact h.symm.trans rfl
theorem closed4_12 : (Rows.deskNamesRow.recurses == Tryz.prog.recurses 4) = true := by
 unfold Program.recurses; rw [unf4]; rfl
theorem closed4_13 : (Rows.deskNamesRow.named == Tryz.prog.varsNamed 4) = true := by
 unfold Program.varsNamed; rw [clo4]; kernel_rfl
theorem card4_name : Tryz.prog.funcNamed Rows.deskNamesRow.func = some 4 := by kernel_rfl
theorem goes4a : (reach4.any fun g => (Tryz.prog.funcs[g]?).any Func.goes) = false := by kernel_rfl
theorem goes4b : Tryz.prog.funcs.any Func.goes = false := by kernel_rfl
theorem goes4 : Tryz.prog.goes 4 = false := by
 unfold Program.goes
 rw [clo4, goes4a, goes4b, Bool.and_false]; rfl
theorem prog_pin : Tryz.pinned.checked.prog = Tryz.prog := rfl
theorem row_start : Rows.deskNamesRow.start = .entering := rfl
theorem card4_goes : false = Rows.deskNamesRow.goesBy Tryz.pinned.checked.prog := by
 unfold OpenClaim.goesBy Program.goesAt Program.goesFrom
 rw [prog_pin, card4_name, row_start, Option.any_some, goes4]
 rfl
end Go.Proofs.YtjackggnnjdhmaaGreatDoor
