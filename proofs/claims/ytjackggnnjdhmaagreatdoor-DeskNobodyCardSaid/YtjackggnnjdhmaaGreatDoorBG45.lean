import Derived.Test.YtjackggnnjdhmaaGreatDoorBG44
namespace Go.Proofs.YtjackggnnjdhmaaGreatDoor
open Go
set_option maxRecDepth 100000
theorem closed5_10 : (Rows.deskNobodyRow.inPlace == Tryz.prog.inPlace 5) = true := by
 unfold Program.inPlace; rw [clo5]; kernel_rfl
theorem closed5_11 : (Rows.deskNobodyRow.unfollowed == Tryz.prog.unfollowed 5) = true := by
 unfold Program.unfollowed; rw [clo5]; kernel_rfl
theorem unf5 : Tryz.prog.unfollowed 5 = true := by
 have h := eq_of_beq closed5_11
 exact h.symm.trans rfl
theorem closed5_12 : (Rows.deskNobodyRow.recurses == Tryz.prog.recurses 5) = true := by
 unfold Program.recurses; rw [unf5]; rfl
theorem closed5_13 : (Rows.deskNobodyRow.named == Tryz.prog.varsNamed 5) = true := by
 unfold Program.varsNamed; rw [clo5]; kernel_rfl
theorem card5_name : Tryz.prog.funcNamed Rows.deskNobodyRow.func = some 5 := by kernel_rfl
theorem goes5a : (reach5.any fun g => (Tryz.prog.funcs[g]?).any Func.goes) = false := by kernel_rfl
theorem goes5b : Tryz.prog.funcs.any Func.goes = false := by kernel_rfl
theorem goes5 : Tryz.prog.goes 5 = false := by
 unfold Program.goes
 rw [clo5, goes5a, goes5b, Bool.and_false]; rfl
theorem prog_pin : Tryz.pinned.checked.prog = Tryz.prog := rfl
theorem row_start : Rows.deskNobodyRow.start = .entering := rfl
theorem card5_goes : false = Rows.deskNobodyRow.goesBy Tryz.pinned.checked.prog := by
 unfold OpenClaim.goesBy Program.goesAt Program.goesFrom
 rw [prog_pin, card5_name, row_start, Option.any_some, goes5]
 rfl
end Go.Proofs.YtjackggnnjdhmaaGreatDoor
