import Derived.Test.YtjackggnnjdhmaaGreatDoorRows
import Derived.KernelRfl
namespace Go.Proofs.YtjackggnnjdhmaaGreatDoor
open Go
theorem rangeA {p : Nat → Bool} (b : Nat) {k a : Nat} (h1 : (List.range' a k).all p = true) (h2 : (List.range' (a + k) b).all p = true) : (List.range' a (k + b)).all p = true := by
 rw [← List.range'_append_1, List.all_append, h1, h2]; rfl
theorem lo0 : (List.range' 0 129).all (rowFine Tryz.prog) = true := by kernel_rfl
theorem lo1 : (List.range' 129 129).all (rowFine Tryz.prog) = true := by kernel_rfl
theorem lo2 : (List.range' 258 129).all (rowFine Tryz.prog) = true := by kernel_rfl
theorem lo3 : (List.range' 387 129).all (rowFine Tryz.prog) = true := by kernel_rfl
theorem lo4 : (List.range' 516 129).all (rowFine Tryz.prog) = true := by kernel_rfl
theorem lo5 : (List.range' 645 129).all (rowFine Tryz.prog) = true := by kernel_rfl
theorem loN : Tryz.prog.types.size = 774 := by kernel_rfl
theorem loG : Tryz.prog.globals.all (fun g => decide (g.type < Tryz.prog.types.size)) = true := by kernel_rfl
theorem loF : Tryz.prog.funcs.all (fun f => f.params.all fun t => decide (t < Tryz.prog.types.size)) = true := by kernel_rfl
theorem seat_2 : laidOutB Tryz.prog = true := by
 unfold laidOutB
 rw [loG, loF, loN, List.range_eq_range', Bool.and_true, Bool.and_true]
 exact rangeA 645 lo0 (rangeA 516 lo1 (rangeA 387 lo2 (rangeA 258 lo3 (rangeA 129 lo4 lo5))))
end Go.Proofs.YtjackggnnjdhmaaGreatDoor
