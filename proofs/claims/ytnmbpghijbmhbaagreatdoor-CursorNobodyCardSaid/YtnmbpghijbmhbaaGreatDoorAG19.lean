/- The closed facts of the rows. -/
import Derived.Test.YtnmbpghijbmhbaaGreatDoorAG18
import Derived.Test.YtnmbpghijbmhbaaGreatDoorRows
namespace Go.Proofs.YtnmbpghijbmhbaaGreatDoor
open Go
set_option maxRecDepth 100000
theorem seat_2 : laidOutB Tryz.prog = true := by kernel_rfl
theorem seat_3 : mapsRowed Tryz.prog = true := by kernel_rfl
theorem seat_7 : (Tryz.prog.stops == []) = true := by kernel_rfl
theorem seat_9 : (Tryz.prog.stopKnobs == []) = true := by kernel_rfl
theorem seat_25 : Tryz.prog.stopsHeard = true := by kernel_rfl
theorem seat_26 : Tryz.prog.mayEnter = true := by kernel_rfl
theorem closed6_1 : Rows.cursorNobodyRow.wf (OpenSpec.ofChange Rows.cursorNobodySpec) = true := by kernel_rfl
theorem closed6_4 : Tryz.f6.params.all (Tryz.prog.readableRec ·) = true := by kernel_rfl
theorem closed6_5 : namedTie Tryz.prog Rows.cursorNobodyRow.named Rows.cursorNobodySpec.vars = true := by kernel_rfl
theorem closed6_6 : (Rows.cursorNobodyRow.stops == []) = true := by kernel_rfl
theorem closed6_8 : (Rows.cursorNobodyRow.knobs == []) = true := by kernel_rfl
theorem closed6_10 : (Rows.cursorNobodyRow.inPlace == Tryz.prog.inPlace 6) = true := by kernel_rfl
theorem closed6_11 : (Rows.cursorNobodyRow.unfollowed == Tryz.prog.unfollowed 6) = true := by kernel_rfl
theorem closed6_12 : (Rows.cursorNobodyRow.recurses == Tryz.prog.recurses 6) = true := by kernel_rfl
theorem closed6_13 : (Rows.cursorNobodyRow.named == Tryz.prog.varsNamed 6) = true := by kernel_rfl
theorem closed6_14 : (Rows.cursorNobodyRow.maps == (Tryz.f6.params.toList ++ Rows.cursorNobodySpec.plain.varTypes Tryz.prog).any (Tryz.prog.mapsRec ·)) = true := by kernel_rfl
theorem closed6_15 : (Rows.cursorNobodyRow.ifaces == (Tryz.f6.params.toList ++ Rows.cursorNobodySpec.plain.varTypes Tryz.prog).any (Tryz.prog.ifacesRec ·)) = true := by kernel_rfl
theorem closed6_16 : (Rows.cursorNobodyRow.mapsOut == Tryz.prog.mapsAmong Tryz.f6.resultTypes.toList) = true := by kernel_rfl
theorem closed6_17 : (Rows.cursorNobodyRow.loops == (Tryz.f6.params.toList ++ Rows.cursorNobodySpec.plain.varTypes Tryz.prog).any (Tryz.prog.loopsFrom ·)) = true := by kernel_rfl
theorem closed6_18 : (Rows.cursorNobodyRow.wideKeys == (Tryz.f6.params.toList ++ Rows.cursorNobodySpec.plain.varTypes Tryz.prog ++ Tryz.f6.resultTypes.toList).any (Tryz.prog.wideKeysFrom ·)) = true := by kernel_rfl
theorem closed6_19 : Rows.cursorNobodySpec.vars.all (Tryz.prog.varReadable ·) = true := by kernel_rfl
theorem closed6_20 : Tryz.f6.resultTypes.all (fun t => Tryz.prog.readableRec t && decide (t < Tryz.prog.types.size)) = true := by kernel_rfl
theorem closed6_21 : (Rows.cursorNobodyRow.ifacesOut == Tryz.f6.resultTypes.toList.any (Tryz.prog.ifacesRec ·)) = true := by kernel_rfl
theorem closed6_22 : (Rows.cursorNobodyRow.loopsOut == Tryz.f6.resultTypes.toList.any (Tryz.prog.loopsFrom ·)) = true := by kernel_rfl
theorem closed6_23 : (Rows.cursorNobodyRow.plainKeys == Tryz.prog.plainKeys) = true := by kernel_rfl
theorem closed6_24 : Rows.cursorNobodyRow.shortTexts.isNone = true := by kernel_rfl
theorem closed6_27 : (Rows.cursorNobodyRow.lifted == Tryz.prog.liftsFinal) = true := by kernel_rfl
theorem closed6_28 : (Tryz.prog.make == some Rows.cursorNobodyRow.make) = true := by kernel_rfl
theorem closed6_29 : (Rows.cursorNobodyRow.kinds == (if Rows.cursorNobodyRow.domain.isEmpty then [] else Tryz.f6.params.toList.map fun t => match Tryz.prog.underlying t with | some (.int k) => some k | _ => none)) = true := by kernel_rfl
theorem closed6_30 : (Rows.cursorNobodyRow.pinned == Rows.cursorNobodyRow.pinnedBy) = true := by kernel_rfl
theorem closed6_31 : (Rows.cursorNobodyRow.veiled == (Tryz.f6.params.toList ++ Rows.cursorNobodySpec.plain.varTypes Tryz.prog ++ Tryz.f6.resultTypes.toList).any (Tryz.prog.veiledRec ·)) = true := by kernel_rfl
theorem closed6_32 : Rows.cursorNobodyRow.veiledFits Tryz.prog Tryz.f6.params.toList (Tryz.f6.params.toList ++ Rows.cursorNobodySpec.plain.varTypes Tryz.prog ++ Tryz.f6.resultTypes.toList) = true := by kernel_rfl
theorem closed6 : joinedFacts Tryz.prog 6 Tryz.f6 Rows.cursorNobodySpec Rows.cursorNobodyRow = true :=
  Go.Ab.joined_of closed6_1 seat_2 seat_3 closed6_4 closed6_5 closed6_6 seat_7 closed6_8 seat_9 closed6_10 closed6_11 closed6_12 closed6_13 closed6_14 closed6_15 closed6_16 closed6_17 closed6_18 closed6_19 closed6_20 closed6_21 closed6_22 closed6_23 closed6_24 seat_25 seat_26 closed6_27 closed6_28 closed6_29 closed6_30 closed6_31 closed6_32
end Go.Proofs.YtnmbpghijbmhbaaGreatDoor
